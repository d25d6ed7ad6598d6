/- Layer 15 (tag): the walk of the statement TagTwice. -/
import Derived.Test.YtmnmonmbdgedbaaTgU
import Derived.Test.YtmnmonmbdgedbaaTgQ
import Derived.Test.YtmnmonmbdgedbaaTg12
import Derived.Deep.RegionHeld3
namespace Go.Proofs.Ytmnmonmbdgedbaa
open Go.RowKit
set_option linter.unusedVariables false
set_option linter.unusedSimpArgs false

def TPar (v : Int) (rv fl : UInt8) (n : Nat) (fs : List Fr) (rest : List UInt8) (c q : Int) (w : World) (e : Ending) (w' : World) : Prop :=
  ∃ a cap, e = .returned (.tuple #[.agg #[.int .i64 v, .int .u8 rv.toNat, .int .u8 fl.toNat, .slice a n cap], .string ⟨rest.toArray⟩, .agg #[.int .i64 c, .int .i64 q]]) ∧ RecsAt w' a n 6 (fs.map frR) ∧ Below w.heap.size w w'
theorem tpar_of (t : Tg) (rest : List UInt8) (c q : Int) (n : Nat) (hn : t.fs.length = n) (w w' : World) (e : Ending) (h : TParse t rest c q w e w') : TPar t.v t.rv t.fl n t.fs rest c q w e w' := by
  obtain ⟨u, rfl, hr, hb⟩ := h
  obtain ⟨a, cp, rfl, _, hat⟩ := hr.at
  have e : (t.fs.map frR).length = n := by simpa using hn
  rw [e] at hat
  exact ⟨a, cp, by rw [e], hat, hb⟩
set_option maxRecDepth 100000 in
theorem ttwice_over (l : List UInt8) (w : World) (h : (2000 : Int) < l.length) : Calls Try.prog 5 #[.string ⟨l.toArray⟩] w fun e w' => e = .returned (.bool true) ∧ Below w.heap.size w w' := by
  go_enter Try.func5, Try.ntmps5
  go_wp2_with (go_at_call 21; refine (awake15' _).mono ?_; rintro e w1 ⟨rfl, hb1⟩)
  go_ret
  exact ⟨rfl, hb1⟩
set_option maxHeartbeats 2000000 in
set_option maxRecDepth 100000 in
theorem ttwice_bad (l rest : List UInt8) (v : Int) (rv fl : UInt8) (n : Nat) (fs : List Fr) (c q : Int) (bd : Bool) (w : World) (h : ¬ (2000 : Int) < l.length)
    (hb : (bd = true ∧ rest = []) ∨ (bd = false ∧ v = 0 ∧ rest = l)) (BD : Hid (∀ w, Calls Try.prog 16 #[.agg #[.int .i64 c, .int .i64 q]] w fun e w' => e = .returned (.bool bd) ∧ Below w.heap.size w w'))
    (PA : Hid (∀ w, Calls Try.prog 17 #[.string ⟨l.toArray⟩] w (TPar v rv fl n fs rest c q w))) :
    Calls Try.prog 5 #[.string ⟨l.toArray⟩] w fun e w' => e = .returned (.bool true) ∧ Below w.heap.size w w' := by
  unfold TPar at PA
  go_enter Try.func5, Try.ntmps5
  go_upto_region 4 with (go_at_call 17; (with_reducible refine (PA.out _).mono ?_); rintro e w1 ⟨a, cap, rfl, hv, hb1⟩; have K := Lib.hid hb1; clear hv hb1)
  have X := Lib.hid (at_a1 w1 #[.int .i64 v, .int .u8 rv.toNat, .int .u8 fl.toNat, .slice a n cap] 26 (.cells #[.int .i64 c, .int .i64 q] 31))
  have F := Lib.hid (at_a2 w1 #[.int .i64 c, .int .i64 q] 31 (.cells #[.int .i64 v, .int .u8 rv.toNat, .int .u8 fl.toNat, .slice a n cap] 26))
  replace K := Lib.hid (nextB K.out (((Below.refl w1.heap.size w1).alloc (Nat.le_refl _) (.cells #[.int .i64 v, .int .u8 rv.toNat, .int .u8 fl.toNat, .slice a n cap] 26)).alloc (by simp) (.cells #[.int .i64 c, .int .i64 q] 31)))
  generalize (w1.alloc (.cells #[.int .i64 v, .int .u8 rv.toNat, .int .u8 fl.toNat, .slice a n cap] 26)).alloc (.cells #[.int .i64 c, .int .i64 q] 31) = v1 at *
  generalize w1.heap.size = xb at *
  obtain ⟨x0, x1, x2, x3⟩ := cells4 (X.out)
  obtain ⟨f0, f1⟩ := cells2 (F.out)
  rcases hb with ⟨rfl, rfl⟩ | ⟨rfl, rfl, rfl⟩
  all_goals (
    go_wp2_with (first | (go_at_call 16; (with_reducible refine (BD.out _).mono ?_); rintro e w2 ⟨rfl, hb2⟩; replace X := Lib.hid (block_below X.out (hb2)); replace F := Lib.hid (block_below F.out (hb2)); replace K := Lib.hid (nextB K.out (hb2)); clear hb2; obtain ⟨y0, y1, y2, y3⟩ := cells4 (X.out); obtain ⟨g0, g1⟩ := cells2 (F.out)) | (go_at_call 21; (with_reducible refine (awake15' _).mono ?_); rintro e w4 ⟨rfl, hb4⟩; replace X := Lib.hid (block_below X.out (hb4)); replace F := Lib.hid (block_below F.out (hb4)); replace K := Lib.hid (nextB K.out (hb4)); clear hb4; obtain ⟨z0, z1, z2, z3⟩ := cells4 (X.out); obtain ⟨h0, h1⟩ := cells2 (F.out)))
    go_ret
    exact ⟨rfl, K.out⟩)
set_option maxHeartbeats 16000000 in
set_option maxRecDepth 100000 in
theorem ttwice_in (l s rest : List UInt8) (v : Int) (rv fl : UInt8) (n : Nat) (fs gs : List Fr) (sp res : Bool) (w : World) (h : ¬ (2000 : Int) < l.length) (hv0 : (v == 0) = false) (hn : n ≤ 1000000) (hL : fs.length = n) (hsl : s.length ≤ 1000000)
    (hres : Hid (res = (sp || fs.any (fun f => spreadB v f.fm)))) (hsm : Hid (res = false → s.length + rest.length ≤ l.length)) (hrl : rest.length ≤ 10000)
    (he : Hid (gs.map (fun f => if false = true then f else zeroPl' f) = fs.map (fun f => if false = true then f else zeroPl' f)))
    (PA : Hid (∀ w, Calls Try.prog 17 #[.string ⟨l.toArray⟩] w (TPar v rv fl n fs rest 0 0 w)))
    (PB : Hid (∀ w, Calls Try.prog 17 #[.string ⟨(s ++ rest).toArray⟩] w (TPar v rv fl n gs rest 0 0 w)))
    (PR : Hid (∀ a cap w, RecsAt w a n 6 (fs.map frR) → Calls Try.prog 15 #[.agg #[.int .i64 v, .int .u8 rv.toNat, .int .u8 fl.toNat, .slice a n cap]] w (TPrints s (0, 0) w)))
    (PS : Hid (∀ a cap w, RecsAt w a n 6 (gs.map frR) → Calls Try.prog 15 #[.agg #[.int .i64 v, .int .u8 rv.toNat, .int .u8 fl.toNat, .slice a n cap]] w (TPrints s (0, 0) w)))
    (SP : Hid (∀ w, Calls Try.prog 23 #[.agg #[.int .i64 v, .int .u8 rv.toNat, .int .u8 fl.toNat]] w fun e w' => e = .returned (.bool sp) ∧ Below w.heap.size w w')) :
    Calls Try.prog 5 #[.string ⟨l.toArray⟩] w fun e w' => e = .returned (.bool true) ∧ Below w.heap.size w w' := by
  have HL : Hid (fs.length = n) := Lib.hid hL
  clear hL
  have BD := Lib.hid (fun w => bad_any 0 0 w)
  rw [show ((0 : Int) != 0) = false by rfl] at BD
  have FS : Hid (∀ (f : Fr) (w : World), Calls Try.prog 24 #[.agg #[.string ⟨f.id.toArray⟩, .int .u8 f.st.toNat, .int .u8 f.fm.toNat], .int .i64 v] w fun e w' => e = .returned (.bool (spreadB v f.fm)) ∧ Below w.heap.size w w') := Lib.hid fun f w => spread_any v f.id f.st f.fm w
  have hni : (n : Int) ≤ 1000000 := by omega
  unfold TPar TPrints at *
  go_enter Try.func5, Try.ntmps5
  go_upto_region 4 with (go_at_call 17; (with_reducible refine (PA.out _).mono ?_); rintro e w1 ⟨a, cap, rfl, hv, hb1⟩; have K := Lib.hid hb1; have V := Lib.hid hv; clear hv hb1)
  have X := Lib.hid (at_a1 w1 #[.int .i64 v, .int .u8 rv.toNat, .int .u8 fl.toNat, .slice a n cap] 26 (.cells #[.int .i64 0, .int .i64 0] 31))
  have F := Lib.hid (at_a2 w1 #[.int .i64 0, .int .i64 0] 31 (.cells #[.int .i64 v, .int .u8 rv.toNat, .int .u8 fl.toNat, .slice a n cap] 26))
  have hB := (((Below.refl w1.heap.size w1).alloc (Nat.le_refl _) (.cells #[.int .i64 v, .int .u8 rv.toNat, .int .u8 fl.toNat, .slice a n cap] 26)).alloc (by simp) (.cells #[.int .i64 0, .int .i64 0] 31))
  replace V := Lib.hid (V.out.below hB)
  replace K := Lib.hid (nextB K.out hB)
  clear hB
  generalize (w1.alloc (.cells #[.int .i64 v, .int .u8 rv.toNat, .int .u8 fl.toNat, .slice a n cap] 26)).alloc (.cells #[.int .i64 0, .int .i64 0] 31) = v1 at *
  generalize w1.heap.size = xb at *
  obtain ⟨x0, x1, x2, x3⟩ := cells4 (X.out)
  obtain ⟨f0, f1⟩ := cells2 (F.out)
  go_upto_region 7 with (first | (go_at_call 16; (with_reducible refine (BD.out _).mono ?_); rintro e w2 ⟨rfl, hb2⟩; replace X := Lib.hid (block_below X.out (hb2)); replace V := Lib.hid (V.out.below (hb2)); replace K := Lib.hid (nextB K.out (hb2)); clear hb2; obtain ⟨y0, y1, y2, y3⟩ := cells4 (X.out)) | (go_at_call 15; (with_reducible refine (PR.out _ _ _ V.out).mono ?_); rintro e w3 ⟨rfl, hb3⟩; replace X := Lib.hid (block_below X.out (hb3)); replace V := Lib.hid (V.out.below (hb3)); replace K := Lib.hid (nextB K.out (hb3)); clear hb3))
  clear x0 x1 x2 x3 f0 f1 y0 y1 y2 y3 F
  have G := Lib.hid (at_a0 w3 #[.int .i64 0, .int .i64 0] 31)
  have hB := ((Below.refl w3.heap.size w3).alloc (Nat.le_refl _) (.cells #[.int .i64 0, .int .i64 0] 31))
  replace V := Lib.hid (V.out.below hB)
  replace X := Lib.hid (block_below X.out hB)
  replace K := Lib.hid (nextB K.out hB)
  clear hB
  generalize w3.alloc (.cells #[.int .i64 0, .int .i64 0] 31) = v3 at *
  generalize w3.heap.size = gb at *
  go_upto_region 8 with (go_at_call 17; (with_reducible refine (PB.out _).mono ?_); rintro e w4 ⟨a2, cap2, rfl, hv, hb4⟩; replace X := Lib.hid (block_below X.out (hb4)); replace G := Lib.hid (block_below G.out (hb4)); replace V := Lib.hid (V.out.below (hb4)); replace K := Lib.hid (nextB K.out (hb4)); clear hb4; have VU := Lib.hid hv; clear hv)
  have Y := Lib.hid (at_a1 w4 #[.int .i64 v, .int .u8 rv.toNat, .int .u8 fl.toNat, .slice a2 n cap2] 26 (.cells #[.int .i64 0, .int .i64 0] 31))
  have F := Lib.hid (at_a2 w4 #[.int .i64 0, .int .i64 0] 31 (.cells #[.int .i64 v, .int .u8 rv.toNat, .int .u8 fl.toNat, .slice a2 n cap2] 26))
  have hB := (((Below.refl w4.heap.size w4).alloc (Nat.le_refl _) (.cells #[.int .i64 v, .int .u8 rv.toNat, .int .u8 fl.toNat, .slice a2 n cap2] 26)).alloc (by simp) (.cells #[.int .i64 0, .int .i64 0] 31))
  replace V := Lib.hid (V.out.below hB)
  replace VU := Lib.hid (VU.out.below hB)
  replace X := Lib.hid (block_below X.out hB)
  replace G := Lib.hid (block_below G.out hB)
  replace K := Lib.hid (nextB K.out hB)
  clear hB
  generalize (w4.alloc (.cells #[.int .i64 v, .int .u8 rv.toNat, .int .u8 fl.toNat, .slice a2 n cap2] 26)).alloc (.cells #[.int .i64 0, .int .i64 0] 31) = v4 at *
  obtain ⟨fb, hfb⟩ : ∃ fb, fb = w4.heap.size + 1 := ⟨_, rfl⟩
  rw [← hfb]
  rw [← hfb] at F
  clear hfb
  generalize w4.heap.size = yb at *
  obtain ⟨y0, y1, y2, y3⟩ := cells4 (Y.out)
  go_upto_region 9 with (go_at_call 15; (with_reducible refine (PS.out _ _ _ VU.out).mono ?_); rintro e w5 ⟨rfl, hb5⟩; replace X := Lib.hid (block_below X.out (hb5)); replace Y := Lib.hid (block_below Y.out (hb5)); replace G := Lib.hid (block_below G.out (hb5)); replace F := Lib.hid (block_below F.out (hb5)); replace V := Lib.hid (V.out.below (hb5)); replace VU := Lib.hid (VU.out.below (hb5)); replace K := Lib.hid (nextB K.out (hb5)); clear hb5)
  clear y0 y1 y2 y3
  have E := Lib.hid (at_a0 w5 #[.int .i64 0, .int .i64 0] 31)
  have hB := ((Below.refl w5.heap.size w5).alloc (Nat.le_refl _) (.cells #[.int .i64 0, .int .i64 0] 31))
  replace V := Lib.hid (V.out.below hB)
  replace VU := Lib.hid (VU.out.below hB)
  replace X := Lib.hid (block_below X.out hB)
  replace Y := Lib.hid (block_below Y.out hB)
  replace G := Lib.hid (block_below G.out hB)
  replace F := Lib.hid (block_below F.out hB)
  replace K := Lib.hid (nextB K.out hB)
  clear hB
  generalize w5.alloc (.cells #[.int .i64 0, .int .i64 0] 31) = v5 at *
  generalize w5.heap.size = eb at *
  obtain ⟨x0, x1, x2, x3⟩ := cells4 (X.out)
  go_upto_region 10 with (go_at_call 23; (with_reducible refine (SP.out _).mono ?_); rintro e w6 ⟨rfl, hb6⟩; replace X := Lib.hid (block_below X.out (hb6)); replace Y := Lib.hid (block_below Y.out (hb6)); replace G := Lib.hid (block_below G.out (hb6)); replace F := Lib.hid (block_below F.out (hb6)); replace E := Lib.hid (block_below E.out (hb6)); replace V := Lib.hid (V.out.below (hb6)); replace VU := Lib.hid (VU.out.below (hb6)); replace K := Lib.hid (nextB K.out (hb6)); clear hb6)
  clear x0 x1 x2 x3
  obtain ⟨x0, x1, x2, x3⟩ := cells4 (X.out)
  go_wp2
  clear x0 x1 x2 x3
  go_loopw [77, 13] (fun i sv wr => ∃ (j : Nat), j ≤ n ∧ i = .int .i64 j ∧ sv = .bool (sp || (fs.take j).any (fun f => spreadB v f.fm)) ∧ Hid (Below w6.heap.size w6 wr)) (fun i _ _ => n - (intOf i).toNat)
  case atStart => exact ⟨0, by omega, rfl, by simp, Lib.hid (Below.refl _ _)⟩
  case round =>
    obtain ⟨j, hj, rfl, rfl, HB⟩ := hrel
    replace X := Lib.hid (block_below X.out HB.out)
    replace Y := Lib.hid (block_below Y.out HB.out)
    replace G := Lib.hid (block_below G.out HB.out)
    replace F := Lib.hid (block_below F.out HB.out)
    replace E := Lib.hid (block_below E.out HB.out)
    replace V := Lib.hid (V.out.below HB.out)
    replace VU := Lib.hid (VU.out.below HB.out)
    replace K := Lib.hid (nextB K.out HB.out)
    have hxw := (Array.getElem?_eq_some_iff.1 X.out).1
    by_cases hlt : j < n
    · have g0 : (j : Int) < n := by omega
      have hjl : j < fs.length := by rw [HL.out]; exact hlt
      obtain ⟨b, off, rfl, hbb, c0, c1, c2, c3, c4, c5⟩ := frs_cells V.out j hjl
      have HV := Lib.hid (show (fs.take (j + 1)).any (fun f => spreadB v f.fm) = ((fs.take j).any (fun f => spreadB v f.fm) || spreadB v fs[j].fm) by rw [List.take_succ_eq_append_getElem hjl, List.any_append]; simp)
      generalize fs[j] = f at *
      obtain ⟨x0, x1, x2, x3⟩ := cells4 (X.out)
      have HBA := Lib.hid (HB.out.alloc HB.out.size (.cells #[.string ⟨f.id.toArray⟩, .int .u8 f.st.toNat, .int .u8 f.fm.toNat, .int .u8 f.gr.toNat, .string ⟨f.bo.toArray⟩, .int .i64 f.pl] 47))
      rcases hsv : (sp || (fs.take j).any (fun f => spreadB v f.fm)) with _ | _
      · have HS := Lib.hid hsv
        clear hsv
        go_wp2_with (go_at_call 24; (with_reducible refine (FS.out f _).mono ?_); rintro e wq ⟨rfl, hbq⟩)
        refine ⟨⟨j + 1, by omega, by simp, ?_, Lib.hid (nextB HBA.out hbq)⟩, by simp [intOf]; omega⟩
        rw [HV.out, ← Bool.or_assoc, HS.out, Bool.false_or]
      · have HS := Lib.hid hsv
        clear hsv
        go_wp2
        refine ⟨⟨j + 1, by omega, by simp, ?_, HBA⟩, by simp [intOf]; omega⟩
        rw [HV.out, ← Bool.or_assoc, HS.out, Bool.true_or]
    · have g0 : ¬ (j : Int) < n := by omega
      have hf : fs.take j = fs := List.take_of_length_le (by rw [HL.out]; omega)
      rw [hf, ← hres.out]
      have KK : Hid (Below wr.heap.size wr wr.drew) := Lib.hid (Below.refl wr.heap.size wr).drew
      have cc : wr.cell? ⟨gb, 0, none⟩ = some (.int .i64 0) ∧ wr.cell? ⟨gb, 1, none⟩ = some (.int .i64 0) ∧ wr.cell? ⟨fb, 0, none⟩ = some (.int .i64 0) ∧ wr.cell? ⟨fb, 1, none⟩ = some (.int .i64 0) ∧ wr.cell? ⟨eb, 0, none⟩ = some (.int .i64 0) ∧ wr.cell? ⟨eb, 1, none⟩ = some (.int .i64 0) ∧ wr.cell? ⟨xb, 0, none⟩ = some (.int .i64 v) ∧ wr.cell? ⟨xb, 1, none⟩ = some (.int .u8 rv.toNat) ∧ wr.cell? ⟨xb, 2, none⟩ = some (.int .u8 fl.toNat) ∧ wr.cell? ⟨xb, 3, none⟩ = some (.slice a n cap) ∧ wr.cell? ⟨yb, 0, none⟩ = some (.int .i64 v) ∧ wr.cell? ⟨yb, 1, none⟩ = some (.int .u8 rv.toNat) ∧ wr.cell? ⟨yb, 2, none⟩ = some (.int .u8 fl.toNat) ∧ wr.cell? ⟨yb, 3, none⟩ = some (.slice a2 n cap2) := ⟨cell_at (j := 0) (G.out), cell_at (j := 1) (G.out), cell_at (j := 0) (F.out), cell_at (j := 1) (F.out), cell_at (j := 0) (E.out), cell_at (j := 1) (E.out), cell_at (j := 0) (X.out), cell_at (j := 1) (X.out), cell_at (j := 2) (X.out), cell_at (j := 3) (X.out), cell_at (j := 0) (Y.out), cell_at (j := 1) (Y.out), cell_at (j := 2) (Y.out), cell_at (j := 3) (Y.out)⟩
      have ccd : (wr.drew).cell? ⟨gb, 0, none⟩ = some (.int .i64 0) ∧ (wr.drew).cell? ⟨gb, 1, none⟩ = some (.int .i64 0) ∧ (wr.drew).cell? ⟨fb, 0, none⟩ = some (.int .i64 0) ∧ (wr.drew).cell? ⟨fb, 1, none⟩ = some (.int .i64 0) ∧ (wr.drew).cell? ⟨eb, 0, none⟩ = some (.int .i64 0) ∧ (wr.drew).cell? ⟨eb, 1, none⟩ = some (.int .i64 0) ∧ (wr.drew).cell? ⟨xb, 0, none⟩ = some (.int .i64 v) ∧ (wr.drew).cell? ⟨xb, 1, none⟩ = some (.int .u8 rv.toNat) ∧ (wr.drew).cell? ⟨xb, 2, none⟩ = some (.int .u8 fl.toNat) ∧ (wr.drew).cell? ⟨xb, 3, none⟩ = some (.slice a n cap) ∧ (wr.drew).cell? ⟨yb, 0, none⟩ = some (.int .i64 v) ∧ (wr.drew).cell? ⟨yb, 1, none⟩ = some (.int .u8 rv.toNat) ∧ (wr.drew).cell? ⟨yb, 2, none⟩ = some (.int .u8 fl.toNat) ∧ (wr.drew).cell? ⟨yb, 3, none⟩ = some (.slice a2 n cap2) := cc
      rcases res with _ | _
      · have g1 : (s.length : Int) + (rest.length : Int) ≤ (l.length : Int) := by have := hsm.out rfl; omega
        have g2 : IntKind.i64.wrap ((s.length : Int) + (rest.length : Int)) = (s.length : Int) + (rest.length : Int) := IntWalk.i64_in _ (by omega)
        clear hf hsm hres
        go_upto_region 15 with (fail)
        first | (go_region_held3 (fun w' => w'.cell? ⟨gb, 0, none⟩ = some (.int .i64 0) ∧ w'.cell? ⟨gb, 1, none⟩ = some (.int .i64 0) ∧ w'.cell? ⟨fb, 0, none⟩ = some (.int .i64 0) ∧ w'.cell? ⟨fb, 1, none⟩ = some (.int .i64 0) ∧ w'.cell? ⟨eb, 0, none⟩ = some (.int .i64 0) ∧ w'.cell? ⟨eb, 1, none⟩ = some (.int .i64 0) ∧ w'.cell? ⟨xb, 0, none⟩ = some (.int .i64 v) ∧ w'.cell? ⟨xb, 1, none⟩ = some (.int .u8 rv.toNat) ∧ w'.cell? ⟨xb, 2, none⟩ = some (.int .u8 fl.toNat) ∧ w'.cell? ⟨xb, 3, none⟩ = some (.slice a n cap) ∧ w'.cell? ⟨yb, 0, none⟩ = some (.int .i64 v) ∧ w'.cell? ⟨yb, 1, none⟩ = some (.int .u8 rv.toNat) ∧ w'.cell? ⟨yb, 2, none⟩ = some (.int .u8 fl.toNat) ∧ w'.cell? ⟨yb, 3, none⟩ = some (.slice a2 n cap2)) (first | with_reducible exact ccd | with_reducible exact xx | fail)
          (first | (go_at_call 21; (with_reducible refine (awake15' _).mono ?_); rintro e wq ⟨rfl, hbq⟩; replace KK := Lib.hid (nextB KK.out hbq); have xx : wq.cell? ⟨gb, 0, none⟩ = some (.int .i64 0) ∧ wq.cell? ⟨gb, 1, none⟩ = some (.int .i64 0) ∧ wq.cell? ⟨fb, 0, none⟩ = some (.int .i64 0) ∧ wq.cell? ⟨fb, 1, none⟩ = some (.int .i64 0) ∧ wq.cell? ⟨eb, 0, none⟩ = some (.int .i64 0) ∧ wq.cell? ⟨eb, 1, none⟩ = some (.int .i64 0) ∧ wq.cell? ⟨xb, 0, none⟩ = some (.int .i64 v) ∧ wq.cell? ⟨xb, 1, none⟩ = some (.int .u8 rv.toNat) ∧ wq.cell? ⟨xb, 2, none⟩ = some (.int .u8 fl.toNat) ∧ wq.cell? ⟨xb, 3, none⟩ = some (.slice a n cap) ∧ wq.cell? ⟨yb, 0, none⟩ = some (.int .i64 v) ∧ wq.cell? ⟨yb, 1, none⟩ = some (.int .u8 rv.toNat) ∧ wq.cell? ⟨yb, 2, none⟩ = some (.int .u8 fl.toNat) ∧ wq.cell? ⟨yb, 3, none⟩ = some (.slice a2 n cap2) := ⟨cell_at (j := 0) (block_below G.out KK.out), cell_at (j := 1) (block_below G.out KK.out), cell_at (j := 0) (block_below F.out KK.out), cell_at (j := 1) (block_below F.out KK.out), cell_at (j := 0) (block_below E.out KK.out), cell_at (j := 1) (block_below E.out KK.out), cell_at (j := 0) (block_below X.out KK.out), cell_at (j := 1) (block_below X.out KK.out), cell_at (j := 2) (block_below X.out KK.out), cell_at (j := 3) (block_below X.out KK.out), cell_at (j := 0) (block_below Y.out KK.out), cell_at (j := 1) (block_below Y.out KK.out), cell_at (j := 2) (block_below Y.out KK.out), cell_at (j := 3) (block_below Y.out KK.out)⟩; clear hbq) | (go_at_call 16; (with_reducible refine (BD.out _).mono ?_); rintro e wq ⟨rfl, hbq⟩; replace KK := Lib.hid (nextB KK.out hbq); have xx : wq.cell? ⟨gb, 0, none⟩ = some (.int .i64 0) ∧ wq.cell? ⟨gb, 1, none⟩ = some (.int .i64 0) ∧ wq.cell? ⟨fb, 0, none⟩ = some (.int .i64 0) ∧ wq.cell? ⟨fb, 1, none⟩ = some (.int .i64 0) ∧ wq.cell? ⟨eb, 0, none⟩ = some (.int .i64 0) ∧ wq.cell? ⟨eb, 1, none⟩ = some (.int .i64 0) ∧ wq.cell? ⟨xb, 0, none⟩ = some (.int .i64 v) ∧ wq.cell? ⟨xb, 1, none⟩ = some (.int .u8 rv.toNat) ∧ wq.cell? ⟨xb, 2, none⟩ = some (.int .u8 fl.toNat) ∧ wq.cell? ⟨xb, 3, none⟩ = some (.slice a n cap) ∧ wq.cell? ⟨yb, 0, none⟩ = some (.int .i64 v) ∧ wq.cell? ⟨yb, 1, none⟩ = some (.int .u8 rv.toNat) ∧ wq.cell? ⟨yb, 2, none⟩ = some (.int .u8 fl.toNat) ∧ wq.cell? ⟨yb, 3, none⟩ = some (.slice a2 n cap2) := ⟨cell_at (j := 0) (block_below G.out KK.out), cell_at (j := 1) (block_below G.out KK.out), cell_at (j := 0) (block_below F.out KK.out), cell_at (j := 1) (block_below F.out KK.out), cell_at (j := 0) (block_below E.out KK.out), cell_at (j := 1) (block_below E.out KK.out), cell_at (j := 0) (block_below X.out KK.out), cell_at (j := 1) (block_below X.out KK.out), cell_at (j := 2) (block_below X.out KK.out), cell_at (j := 3) (block_below X.out KK.out), cell_at (j := 0) (block_below Y.out KK.out), cell_at (j := 1) (block_below Y.out KK.out), cell_at (j := 2) (block_below Y.out KK.out), cell_at (j := 3) (block_below Y.out KK.out)⟩; clear hbq) | (go_at_call 20; (with_reducible refine (tof_any v rv fl a n cap fs _ (Lib.hid (V.out.below KK.out)) hn).mono ?_); rintro e wq ⟨oa, oc, rfl, ho, hbq⟩; (try replace HO1 := Lib.hid (HO1.out.below hbq)); (try replace HO2 := Lib.hid (HO2.out.below hbq)); replace KK := Lib.hid (nextB KK.out hbq); have xx : wq.cell? ⟨gb, 0, none⟩ = some (.int .i64 0) ∧ wq.cell? ⟨gb, 1, none⟩ = some (.int .i64 0) ∧ wq.cell? ⟨fb, 0, none⟩ = some (.int .i64 0) ∧ wq.cell? ⟨fb, 1, none⟩ = some (.int .i64 0) ∧ wq.cell? ⟨eb, 0, none⟩ = some (.int .i64 0) ∧ wq.cell? ⟨eb, 1, none⟩ = some (.int .i64 0) ∧ wq.cell? ⟨xb, 0, none⟩ = some (.int .i64 v) ∧ wq.cell? ⟨xb, 1, none⟩ = some (.int .u8 rv.toNat) ∧ wq.cell? ⟨xb, 2, none⟩ = some (.int .u8 fl.toNat) ∧ wq.cell? ⟨xb, 3, none⟩ = some (.slice a n cap) ∧ wq.cell? ⟨yb, 0, none⟩ = some (.int .i64 v) ∧ wq.cell? ⟨yb, 1, none⟩ = some (.int .u8 rv.toNat) ∧ wq.cell? ⟨yb, 2, none⟩ = some (.int .u8 fl.toNat) ∧ wq.cell? ⟨yb, 3, none⟩ = some (.slice a2 n cap2) := ⟨cell_at (j := 0) (block_below G.out KK.out), cell_at (j := 1) (block_below G.out KK.out), cell_at (j := 0) (block_below F.out KK.out), cell_at (j := 1) (block_below F.out KK.out), cell_at (j := 0) (block_below E.out KK.out), cell_at (j := 1) (block_below E.out KK.out), cell_at (j := 0) (block_below X.out KK.out), cell_at (j := 1) (block_below X.out KK.out), cell_at (j := 2) (block_below X.out KK.out), cell_at (j := 3) (block_below X.out KK.out), cell_at (j := 0) (block_below Y.out KK.out), cell_at (j := 1) (block_below Y.out KK.out), cell_at (j := 2) (block_below Y.out KK.out), cell_at (j := 3) (block_below Y.out KK.out)⟩; clear hbq; have HO1 := Lib.hid ho) | (go_at_call 20; (with_reducible refine (tof_any v rv fl a2 n cap2 gs _ (Lib.hid (VU.out.below KK.out)) hn).mono ?_); rintro e wq ⟨ob, od, rfl, ho, hbq⟩; (try replace HO1 := Lib.hid (HO1.out.below hbq)); (try replace HO2 := Lib.hid (HO2.out.below hbq)); replace KK := Lib.hid (nextB KK.out hbq); have xx : wq.cell? ⟨gb, 0, none⟩ = some (.int .i64 0) ∧ wq.cell? ⟨gb, 1, none⟩ = some (.int .i64 0) ∧ wq.cell? ⟨fb, 0, none⟩ = some (.int .i64 0) ∧ wq.cell? ⟨fb, 1, none⟩ = some (.int .i64 0) ∧ wq.cell? ⟨eb, 0, none⟩ = some (.int .i64 0) ∧ wq.cell? ⟨eb, 1, none⟩ = some (.int .i64 0) ∧ wq.cell? ⟨xb, 0, none⟩ = some (.int .i64 v) ∧ wq.cell? ⟨xb, 1, none⟩ = some (.int .u8 rv.toNat) ∧ wq.cell? ⟨xb, 2, none⟩ = some (.int .u8 fl.toNat) ∧ wq.cell? ⟨xb, 3, none⟩ = some (.slice a n cap) ∧ wq.cell? ⟨yb, 0, none⟩ = some (.int .i64 v) ∧ wq.cell? ⟨yb, 1, none⟩ = some (.int .u8 rv.toNat) ∧ wq.cell? ⟨yb, 2, none⟩ = some (.int .u8 fl.toNat) ∧ wq.cell? ⟨yb, 3, none⟩ = some (.slice a2 n cap2) := ⟨cell_at (j := 0) (block_below G.out KK.out), cell_at (j := 1) (block_below G.out KK.out), cell_at (j := 0) (block_below F.out KK.out), cell_at (j := 1) (block_below F.out KK.out), cell_at (j := 0) (block_below E.out KK.out), cell_at (j := 1) (block_below E.out KK.out), cell_at (j := 0) (block_below X.out KK.out), cell_at (j := 1) (block_below X.out KK.out), cell_at (j := 2) (block_below X.out KK.out), cell_at (j := 3) (block_below X.out KK.out), cell_at (j := 0) (block_below Y.out KK.out), cell_at (j := 1) (block_below Y.out KK.out), cell_at (j := 2) (block_below Y.out KK.out), cell_at (j := 3) (block_below Y.out KK.out)⟩; clear hbq; have HO2 := Lib.hid ho) | (go_at_call 19; (with_reducible refine (tsame_yes v rv.toNat fl.toNat ob oa n od oc gs fs false _ HO2 HO1 hn he).mono ?_); rintro e wq ⟨rfl, hbq⟩; (try replace HO1 := Lib.hid (HO1.out.below hbq)); (try replace HO2 := Lib.hid (HO2.out.below hbq)); replace KK := Lib.hid (nextB KK.out hbq); have xx : wq.cell? ⟨gb, 0, none⟩ = some (.int .i64 0) ∧ wq.cell? ⟨gb, 1, none⟩ = some (.int .i64 0) ∧ wq.cell? ⟨fb, 0, none⟩ = some (.int .i64 0) ∧ wq.cell? ⟨fb, 1, none⟩ = some (.int .i64 0) ∧ wq.cell? ⟨eb, 0, none⟩ = some (.int .i64 0) ∧ wq.cell? ⟨eb, 1, none⟩ = some (.int .i64 0) ∧ wq.cell? ⟨xb, 0, none⟩ = some (.int .i64 v) ∧ wq.cell? ⟨xb, 1, none⟩ = some (.int .u8 rv.toNat) ∧ wq.cell? ⟨xb, 2, none⟩ = some (.int .u8 fl.toNat) ∧ wq.cell? ⟨xb, 3, none⟩ = some (.slice a n cap) ∧ wq.cell? ⟨yb, 0, none⟩ = some (.int .i64 v) ∧ wq.cell? ⟨yb, 1, none⟩ = some (.int .u8 rv.toNat) ∧ wq.cell? ⟨yb, 2, none⟩ = some (.int .u8 fl.toNat) ∧ wq.cell? ⟨yb, 3, none⟩ = some (.slice a2 n cap2) := ⟨cell_at (j := 0) (block_below G.out KK.out), cell_at (j := 1) (block_below G.out KK.out), cell_at (j := 0) (block_below F.out KK.out), cell_at (j := 1) (block_below F.out KK.out), cell_at (j := 0) (block_below E.out KK.out), cell_at (j := 1) (block_below E.out KK.out), cell_at (j := 0) (block_below X.out KK.out), cell_at (j := 1) (block_below X.out KK.out), cell_at (j := 2) (block_below X.out KK.out), cell_at (j := 3) (block_below X.out KK.out), cell_at (j := 0) (block_below Y.out KK.out), cell_at (j := 1) (block_below Y.out KK.out), cell_at (j := 2) (block_below Y.out KK.out), cell_at (j := 3) (block_below Y.out KK.out)⟩; clear hbq))) | fail
        all_goals (go_wp2; go_ret; exact ⟨rfl, nextB K.out KK.out⟩)
      · clear hf hsm hres
        go_upto_region 15 with (fail)
        have xx := ccd
        refine wp_region_noPanic ?_
        refine wp_region_held_drew (S := fun w' => w'.cell? ⟨gb, 0, none⟩ = some (.int .i64 0) ∧ w'.cell? ⟨gb, 1, none⟩ = some (.int .i64 0) ∧ w'.cell? ⟨fb, 0, none⟩ = some (.int .i64 0) ∧ w'.cell? ⟨fb, 1, none⟩ = some (.int .i64 0) ∧ w'.cell? ⟨eb, 0, none⟩ = some (.int .i64 0) ∧ w'.cell? ⟨eb, 1, none⟩ = some (.int .i64 0) ∧ w'.cell? ⟨xb, 0, none⟩ = some (.int .i64 v) ∧ w'.cell? ⟨xb, 1, none⟩ = some (.int .u8 rv.toNat) ∧ w'.cell? ⟨xb, 2, none⟩ = some (.int .u8 fl.toNat) ∧ w'.cell? ⟨xb, 3, none⟩ = some (.slice a n cap) ∧ w'.cell? ⟨yb, 0, none⟩ = some (.int .i64 v) ∧ w'.cell? ⟨yb, 1, none⟩ = some (.int .u8 rv.toNat) ∧ w'.cell? ⟨yb, 2, none⟩ = some (.int .u8 fl.toNat) ∧ w'.cell? ⟨yb, 3, none⟩ = some (.slice a2 n cap2)) (by kernel_rfl) xx (fun hHeld => ?_)
        clear hHeld
        refine wpAnyH_ready (rs := [0]) (by kernel_rfl) (by simp) ?_
        refine AllReadyH.cons rfl (fun K hK => ?_) AllReadyH.nil
        go_simp
        (go_at_call 21; refine (awake15' _).mono ?_; rintro e wq ⟨rfl, hbq⟩; replace KK := Lib.hid (nextB KK.out hbq); have xx : wq.cell? ⟨gb, 0, none⟩ = some (.int .i64 0) ∧ wq.cell? ⟨gb, 1, none⟩ = some (.int .i64 0) ∧ wq.cell? ⟨fb, 0, none⟩ = some (.int .i64 0) ∧ wq.cell? ⟨fb, 1, none⟩ = some (.int .i64 0) ∧ wq.cell? ⟨eb, 0, none⟩ = some (.int .i64 0) ∧ wq.cell? ⟨eb, 1, none⟩ = some (.int .i64 0) ∧ wq.cell? ⟨xb, 0, none⟩ = some (.int .i64 v) ∧ wq.cell? ⟨xb, 1, none⟩ = some (.int .u8 rv.toNat) ∧ wq.cell? ⟨xb, 2, none⟩ = some (.int .u8 fl.toNat) ∧ wq.cell? ⟨xb, 3, none⟩ = some (.slice a n cap) ∧ wq.cell? ⟨yb, 0, none⟩ = some (.int .i64 v) ∧ wq.cell? ⟨yb, 1, none⟩ = some (.int .u8 rv.toNat) ∧ wq.cell? ⟨yb, 2, none⟩ = some (.int .u8 fl.toNat) ∧ wq.cell? ⟨yb, 3, none⟩ = some (.slice a2 n cap2) := ⟨cell_at (j := 0) (block_below G.out KK.out), cell_at (j := 1) (block_below G.out KK.out), cell_at (j := 0) (block_below F.out KK.out), cell_at (j := 1) (block_below F.out KK.out), cell_at (j := 0) (block_below E.out KK.out), cell_at (j := 1) (block_below E.out KK.out), cell_at (j := 0) (block_below X.out KK.out), cell_at (j := 1) (block_below X.out KK.out), cell_at (j := 2) (block_below X.out KK.out), cell_at (j := 3) (block_below X.out KK.out), cell_at (j := 0) (block_below Y.out KK.out), cell_at (j := 1) (block_below Y.out KK.out), cell_at (j := 2) (block_below Y.out KK.out), cell_at (j := 3) (block_below Y.out KK.out)⟩; clear hbq)
        refine hK.out _ _ xx (fun hHeld => ?_)
        clear hK K hHeld
        try simp only [Act.put, List.setIfInBounds_toArray, List.set_cons_zero, List.set_cons_succ, List.getElem_toArray, List.getElem_cons_zero, List.getElem_cons_succ]
        refine wpAnyH_take (i := 1) (v := ?v1) rfl (by kernel_rfl) (by kernel_rfl) (by kernel_rfl) (fun _ _ _ h => h) (Or.inl ⟨by rfl, ?hy1⟩) xx ?r1
        case hy1 => (intro w hSw; (try dsimp only at hSw); go_simp; first | done | with_reducible rfl)
        try simp only [Act.put, List.setIfInBounds_toArray, List.set_cons_zero, List.set_cons_succ, List.getElem_toArray, List.getElem_cons_zero, List.getElem_cons_succ]
        refine wpAnyH_take (i := 2) (v := ?v2) rfl (by kernel_rfl) (by kernel_rfl) (by kernel_rfl) (fun _ _ _ h => h) (Or.inl ⟨by rfl, ?hy2⟩) xx ?r2
        case hy2 => (intro w hSw; (try dsimp only at hSw); go_simp; first | done | with_reducible rfl)
        try simp only [Act.put, List.setIfInBounds_toArray, List.set_cons_zero, List.set_cons_succ, List.getElem_toArray, List.getElem_cons_zero, List.getElem_cons_succ]
        refine wpAnyH_ready (rs := [3]) (by kernel_rfl) (by simp) ?_
        refine AllReadyH.cons rfl (fun K hK => ?_) AllReadyH.nil
        go_simp
        (go_at_call 16; refine (BD.out _).mono ?_; rintro e wq ⟨rfl, hbq⟩; replace KK := Lib.hid (nextB KK.out hbq); have xx : wq.cell? ⟨gb, 0, none⟩ = some (.int .i64 0) ∧ wq.cell? ⟨gb, 1, none⟩ = some (.int .i64 0) ∧ wq.cell? ⟨fb, 0, none⟩ = some (.int .i64 0) ∧ wq.cell? ⟨fb, 1, none⟩ = some (.int .i64 0) ∧ wq.cell? ⟨eb, 0, none⟩ = some (.int .i64 0) ∧ wq.cell? ⟨eb, 1, none⟩ = some (.int .i64 0) ∧ wq.cell? ⟨xb, 0, none⟩ = some (.int .i64 v) ∧ wq.cell? ⟨xb, 1, none⟩ = some (.int .u8 rv.toNat) ∧ wq.cell? ⟨xb, 2, none⟩ = some (.int .u8 fl.toNat) ∧ wq.cell? ⟨xb, 3, none⟩ = some (.slice a n cap) ∧ wq.cell? ⟨yb, 0, none⟩ = some (.int .i64 v) ∧ wq.cell? ⟨yb, 1, none⟩ = some (.int .u8 rv.toNat) ∧ wq.cell? ⟨yb, 2, none⟩ = some (.int .u8 fl.toNat) ∧ wq.cell? ⟨yb, 3, none⟩ = some (.slice a2 n cap2) := ⟨cell_at (j := 0) (block_below G.out KK.out), cell_at (j := 1) (block_below G.out KK.out), cell_at (j := 0) (block_below F.out KK.out), cell_at (j := 1) (block_below F.out KK.out), cell_at (j := 0) (block_below E.out KK.out), cell_at (j := 1) (block_below E.out KK.out), cell_at (j := 0) (block_below X.out KK.out), cell_at (j := 1) (block_below X.out KK.out), cell_at (j := 2) (block_below X.out KK.out), cell_at (j := 3) (block_below X.out KK.out), cell_at (j := 0) (block_below Y.out KK.out), cell_at (j := 1) (block_below Y.out KK.out), cell_at (j := 2) (block_below Y.out KK.out), cell_at (j := 3) (block_below Y.out KK.out)⟩; clear hbq)
        refine hK.out _ _ xx (fun hHeld => ?_)
        clear hK K hHeld
        try simp only [Act.put, List.setIfInBounds_toArray, List.set_cons_zero, List.set_cons_succ, List.getElem_toArray, List.getElem_cons_zero, List.getElem_cons_succ]
        refine wpAnyH_take (i := 4) (v := ?v4) rfl (by kernel_rfl) (by kernel_rfl) (by kernel_rfl) (fun _ _ _ h => h) (Or.inl ⟨by rfl, ?hy4⟩) xx ?r4
        case hy4 => (intro w hSw; (try dsimp only at hSw); go_simp; first | done | with_reducible rfl)
        try simp only [Act.put, List.setIfInBounds_toArray, List.set_cons_zero, List.set_cons_succ, List.getElem_toArray, List.getElem_cons_zero, List.getElem_cons_succ]
        refine wpAnyH_take (i := 5) (v := ?v5) rfl (by kernel_rfl) (by kernel_rfl) (by kernel_rfl) (fun _ _ _ h => h) (Or.inl ⟨by rfl, ?hy5⟩) xx ?r5
        case hy5 => (intro w hSw; (try dsimp only at hSw); go_simp; first | done | with_reducible rfl)
        try simp only [Act.put, List.setIfInBounds_toArray, List.set_cons_zero, List.set_cons_succ, List.getElem_toArray, List.getElem_cons_zero, List.getElem_cons_succ]
        refine wpAnyH_take (i := 6) (v := ?v6) rfl (by kernel_rfl) (by kernel_rfl) (by kernel_rfl) (fun _ _ _ h => h) (Or.inl ⟨by rfl, ?hy6⟩) xx ?r6
        case hy6 => (intro w hSw; (try dsimp only at hSw); go_simp; first | done | with_reducible rfl)
        try simp only [Act.put, List.setIfInBounds_toArray, List.set_cons_zero, List.set_cons_succ, List.getElem_toArray, List.getElem_cons_zero, List.getElem_cons_succ]
        refine wpAnyH_take (i := 7) (v := ?v7) rfl (by kernel_rfl) (by kernel_rfl) (by kernel_rfl) (fun _ _ _ h => h) (Or.inl ⟨by rfl, ?hy7⟩) xx ?r7
        case hy7 => (intro w hSw; (try dsimp only at hSw); go_simp; first | done | with_reducible rfl)
        try simp only [Act.put, List.setIfInBounds_toArray, List.set_cons_zero, List.set_cons_succ, List.getElem_toArray, List.getElem_cons_zero, List.getElem_cons_succ]
        refine wpAnyH_ready (rs := [8]) (by kernel_rfl) (by simp) ?_
        refine AllReadyH.cons rfl (fun K hK => ?_) AllReadyH.nil
        go_simp
        (go_at_call 16; refine (BD.out _).mono ?_; rintro e wq ⟨rfl, hbq⟩; replace KK := Lib.hid (nextB KK.out hbq); have xx : wq.cell? ⟨gb, 0, none⟩ = some (.int .i64 0) ∧ wq.cell? ⟨gb, 1, none⟩ = some (.int .i64 0) ∧ wq.cell? ⟨fb, 0, none⟩ = some (.int .i64 0) ∧ wq.cell? ⟨fb, 1, none⟩ = some (.int .i64 0) ∧ wq.cell? ⟨eb, 0, none⟩ = some (.int .i64 0) ∧ wq.cell? ⟨eb, 1, none⟩ = some (.int .i64 0) ∧ wq.cell? ⟨xb, 0, none⟩ = some (.int .i64 v) ∧ wq.cell? ⟨xb, 1, none⟩ = some (.int .u8 rv.toNat) ∧ wq.cell? ⟨xb, 2, none⟩ = some (.int .u8 fl.toNat) ∧ wq.cell? ⟨xb, 3, none⟩ = some (.slice a n cap) ∧ wq.cell? ⟨yb, 0, none⟩ = some (.int .i64 v) ∧ wq.cell? ⟨yb, 1, none⟩ = some (.int .u8 rv.toNat) ∧ wq.cell? ⟨yb, 2, none⟩ = some (.int .u8 fl.toNat) ∧ wq.cell? ⟨yb, 3, none⟩ = some (.slice a2 n cap2) := ⟨cell_at (j := 0) (block_below G.out KK.out), cell_at (j := 1) (block_below G.out KK.out), cell_at (j := 0) (block_below F.out KK.out), cell_at (j := 1) (block_below F.out KK.out), cell_at (j := 0) (block_below E.out KK.out), cell_at (j := 1) (block_below E.out KK.out), cell_at (j := 0) (block_below X.out KK.out), cell_at (j := 1) (block_below X.out KK.out), cell_at (j := 2) (block_below X.out KK.out), cell_at (j := 3) (block_below X.out KK.out), cell_at (j := 0) (block_below Y.out KK.out), cell_at (j := 1) (block_below Y.out KK.out), cell_at (j := 2) (block_below Y.out KK.out), cell_at (j := 3) (block_below Y.out KK.out)⟩; clear hbq)
        refine hK.out _ _ xx (fun hHeld => ?_)
        clear hK K hHeld
        try simp only [Act.put, List.setIfInBounds_toArray, List.set_cons_zero, List.set_cons_succ, List.getElem_toArray, List.getElem_cons_zero, List.getElem_cons_succ]
        refine wpAnyH_take (i := 9) (v := ?v9) rfl (by kernel_rfl) (by kernel_rfl) (by kernel_rfl) (fun _ _ _ h => h) (Or.inl ⟨by rfl, ?hy9⟩) xx ?r9
        case hy9 => (intro w hSw; (try dsimp only at hSw); go_simp; first | done | with_reducible rfl)
        try simp only [Act.put, List.setIfInBounds_toArray, List.set_cons_zero, List.set_cons_succ, List.getElem_toArray, List.getElem_cons_zero, List.getElem_cons_succ]
        refine wpAnyH_take (i := 10) (v := ?v10) rfl (by kernel_rfl) (by kernel_rfl) (by kernel_rfl) (fun _ _ _ h => h) (Or.inl ⟨by rfl, ?hy10⟩) xx ?r10
        case hy10 => (intro w hSw; (try dsimp only at hSw); go_simp; first | done | with_reducible rfl)
        try simp only [Act.put, List.setIfInBounds_toArray, List.set_cons_zero, List.set_cons_succ, List.getElem_toArray, List.getElem_cons_zero, List.getElem_cons_succ]
        refine wpAnyH_take (i := 11) (v := ?v11) rfl (by kernel_rfl) (by kernel_rfl) (by kernel_rfl) (fun _ _ _ h => h) (Or.inl ⟨by rfl, ?hy11⟩) xx ?r11
        case hy11 => (intro w hSw; (try dsimp only at hSw); go_simp; first | done | with_reducible rfl)
        try simp only [Act.put, List.setIfInBounds_toArray, List.set_cons_zero, List.set_cons_succ, List.getElem_toArray, List.getElem_cons_zero, List.getElem_cons_succ]
        refine wpAnyH_take (i := 12) (v := ?v12) rfl (by kernel_rfl) (by kernel_rfl) (by kernel_rfl) (fun _ _ _ h => h) (Or.inl ⟨by rfl, ?hy12⟩) xx ?r12
        case hy12 => (intro w hSw; (try dsimp only at hSw); go_simp; first | done | with_reducible rfl)
        try simp only [Act.put, List.setIfInBounds_toArray, List.set_cons_zero, List.set_cons_succ, List.getElem_toArray, List.getElem_cons_zero, List.getElem_cons_succ]
        refine wpAnyH_ready (rs := [13]) (by kernel_rfl) (by simp) ?_
        refine AllReadyH.cons rfl (fun K hK => ?_) AllReadyH.nil
        go_simp
        (go_at_call 16; refine (BD.out _).mono ?_; rintro e wq ⟨rfl, hbq⟩; replace KK := Lib.hid (nextB KK.out hbq); have xx : wq.cell? ⟨gb, 0, none⟩ = some (.int .i64 0) ∧ wq.cell? ⟨gb, 1, none⟩ = some (.int .i64 0) ∧ wq.cell? ⟨fb, 0, none⟩ = some (.int .i64 0) ∧ wq.cell? ⟨fb, 1, none⟩ = some (.int .i64 0) ∧ wq.cell? ⟨eb, 0, none⟩ = some (.int .i64 0) ∧ wq.cell? ⟨eb, 1, none⟩ = some (.int .i64 0) ∧ wq.cell? ⟨xb, 0, none⟩ = some (.int .i64 v) ∧ wq.cell? ⟨xb, 1, none⟩ = some (.int .u8 rv.toNat) ∧ wq.cell? ⟨xb, 2, none⟩ = some (.int .u8 fl.toNat) ∧ wq.cell? ⟨xb, 3, none⟩ = some (.slice a n cap) ∧ wq.cell? ⟨yb, 0, none⟩ = some (.int .i64 v) ∧ wq.cell? ⟨yb, 1, none⟩ = some (.int .u8 rv.toNat) ∧ wq.cell? ⟨yb, 2, none⟩ = some (.int .u8 fl.toNat) ∧ wq.cell? ⟨yb, 3, none⟩ = some (.slice a2 n cap2) := ⟨cell_at (j := 0) (block_below G.out KK.out), cell_at (j := 1) (block_below G.out KK.out), cell_at (j := 0) (block_below F.out KK.out), cell_at (j := 1) (block_below F.out KK.out), cell_at (j := 0) (block_below E.out KK.out), cell_at (j := 1) (block_below E.out KK.out), cell_at (j := 0) (block_below X.out KK.out), cell_at (j := 1) (block_below X.out KK.out), cell_at (j := 2) (block_below X.out KK.out), cell_at (j := 3) (block_below X.out KK.out), cell_at (j := 0) (block_below Y.out KK.out), cell_at (j := 1) (block_below Y.out KK.out), cell_at (j := 2) (block_below Y.out KK.out), cell_at (j := 3) (block_below Y.out KK.out)⟩; clear hbq)
        refine hK.out _ _ xx (fun hHeld => ?_)
        clear hK K hHeld
        try simp only [Act.put, List.setIfInBounds_toArray, List.set_cons_zero, List.set_cons_succ, List.getElem_toArray, List.getElem_cons_zero, List.getElem_cons_succ]
        refine wpAnyH_take (i := 14) (v := ?v14) rfl (by kernel_rfl) (by kernel_rfl) (by kernel_rfl) (fun _ _ _ h => h) (Or.inl ⟨by rfl, ?hy14⟩) xx ?r14
        case hy14 => (intro w hSw; (try dsimp only at hSw); go_simp; first | done | with_reducible rfl)
        try simp only [Act.put, List.setIfInBounds_toArray, List.set_cons_zero, List.set_cons_succ, List.getElem_toArray, List.getElem_cons_zero, List.getElem_cons_succ]
        refine wpAnyH_take (i := 15) (v := ?v15) rfl (by kernel_rfl) (by kernel_rfl) (by kernel_rfl) (fun _ _ _ h => h) (Or.inl ⟨by rfl, ?hy15⟩) xx ?r15
        case hy15 => (intro w hSw; (try dsimp only at hSw); go_simp; first | done | with_reducible rfl)
        try simp only [Act.put, List.setIfInBounds_toArray, List.set_cons_zero, List.set_cons_succ, List.getElem_toArray, List.getElem_cons_zero, List.getElem_cons_succ]
        refine wpAnyH_take (i := 16) (v := ?v16) rfl (by kernel_rfl) (by kernel_rfl) (by kernel_rfl) (fun _ _ _ h => h) (Or.inl ⟨by rfl, ?hy16⟩) xx ?r16
        case hy16 => (intro w hSw; (try dsimp only at hSw); go_simp; first | done | with_reducible rfl)
        try simp only [Act.put, List.setIfInBounds_toArray, List.set_cons_zero, List.set_cons_succ, List.getElem_toArray, List.getElem_cons_zero, List.getElem_cons_succ]
        refine wpAnyH_take (i := 17) (v := ?v17) rfl (by kernel_rfl) (by kernel_rfl) (by kernel_rfl) (fun _ _ _ h => h) (Or.inl ⟨by rfl, ?hy17⟩) xx ?r17
        case hy17 => (intro w hSw; (try dsimp only at hSw); go_simp; first | done | with_reducible rfl)
        try simp only [Act.put, List.setIfInBounds_toArray, List.set_cons_zero, List.set_cons_succ, List.getElem_toArray, List.getElem_cons_zero, List.getElem_cons_succ]
        refine wpAnyH_take (i := 18) (v := ?v18) rfl (by kernel_rfl) (by kernel_rfl) (by kernel_rfl) (fun _ _ _ h => h) (Or.inl ⟨by rfl, ?hy18⟩) xx ?r18
        case hy18 => (intro w hSw; (try dsimp only at hSw); go_simp; first | done | with_reducible rfl)
        try simp only [Act.put, List.setIfInBounds_toArray, List.set_cons_zero, List.set_cons_succ, List.getElem_toArray, List.getElem_cons_zero, List.getElem_cons_succ]
        refine wpAnyH_take (i := 19) (v := ?v19) rfl (by kernel_rfl) (by kernel_rfl) (by kernel_rfl) (fun _ _ _ h => h) (Or.inl ⟨by rfl, ?hy19⟩) xx ?r19
        case hy19 => (intro w hSw; (try dsimp only at hSw); go_simp; first | done | with_reducible rfl)
        try simp only [Act.put, List.setIfInBounds_toArray, List.set_cons_zero, List.set_cons_succ, List.getElem_toArray, List.getElem_cons_zero, List.getElem_cons_succ]
        refine wpAnyH_take (i := 20) (v := ?v20) rfl (by kernel_rfl) (by kernel_rfl) (by kernel_rfl) (fun _ _ _ h => h) (Or.inl ⟨by rfl, ?hy20⟩) xx ?r20
        case hy20 => (intro w hSw; (try dsimp only at hSw); go_simp; first | done | with_reducible rfl)
        try simp only [Act.put, List.setIfInBounds_toArray, List.set_cons_zero, List.set_cons_succ, List.getElem_toArray, List.getElem_cons_zero, List.getElem_cons_succ]
        refine wpAnyH_take (i := 21) (v := ?v21) rfl (by kernel_rfl) (by kernel_rfl) (by kernel_rfl) (fun _ _ _ h => h) (Or.inl ⟨by rfl, ?hy21⟩) xx ?r21
        case hy21 => (intro w hSw; (try dsimp only at hSw); go_simp; first | done | with_reducible rfl)
        try simp only [Act.put, List.setIfInBounds_toArray, List.set_cons_zero, List.set_cons_succ, List.getElem_toArray, List.getElem_cons_zero, List.getElem_cons_succ]
        refine wpAnyH_take (i := 22) (v := ?v22) rfl (by kernel_rfl) (by kernel_rfl) (by kernel_rfl) (fun _ _ _ h => h) (Or.inl ⟨by rfl, ?hy22⟩) xx ?r22
        case hy22 => (intro w hSw; (try dsimp only at hSw); go_simp; first | done | with_reducible rfl)
        try simp only [Act.put, List.setIfInBounds_toArray, List.set_cons_zero, List.set_cons_succ, List.getElem_toArray, List.getElem_cons_zero, List.getElem_cons_succ]
        refine wpAnyH_take (i := 23) (v := ?v23) rfl (by kernel_rfl) (by kernel_rfl) (by kernel_rfl) (fun _ _ _ h => h) (Or.inl ⟨by rfl, ?hy23⟩) xx ?r23
        case hy23 => (intro w hSw; (try dsimp only at hSw); go_simp; first | done | with_reducible rfl)
        try simp only [Act.put, List.setIfInBounds_toArray, List.set_cons_zero, List.set_cons_succ, List.getElem_toArray, List.getElem_cons_zero, List.getElem_cons_succ]
        refine wpAnyH_take (i := 24) (v := ?v24) rfl (by kernel_rfl) (by kernel_rfl) (by kernel_rfl) (fun _ _ _ h => h) (Or.inl ⟨by rfl, ?hy24⟩) xx ?r24
        case hy24 => (intro w hSw; (try dsimp only at hSw); go_simp; first | done | with_reducible rfl)
        try simp only [Act.put, List.setIfInBounds_toArray, List.set_cons_zero, List.set_cons_succ, List.getElem_toArray, List.getElem_cons_zero, List.getElem_cons_succ]
        refine wpAnyH_take (i := 25) (v := ?v25) rfl (by kernel_rfl) (by kernel_rfl) (by kernel_rfl) (fun _ _ _ h => h) (Or.inl ⟨by rfl, ?hy25⟩) xx ?r25
        case hy25 => (intro w hSw; (try dsimp only at hSw); go_simp; first | done | with_reducible rfl)
        try simp only [Act.put, List.setIfInBounds_toArray, List.set_cons_zero, List.set_cons_succ, List.getElem_toArray, List.getElem_cons_zero, List.getElem_cons_succ]
        refine wpAnyH_take (i := 26) (v := ?v26) rfl (by kernel_rfl) (by kernel_rfl) (by kernel_rfl) (fun _ _ _ h => h) (Or.inl ⟨by rfl, ?hy26⟩) xx ?r26
        case hy26 => (intro w hSw; (try dsimp only at hSw); go_simp; first | done | with_reducible rfl)
        try simp only [Act.put, List.setIfInBounds_toArray, List.set_cons_zero, List.set_cons_succ, List.getElem_toArray, List.getElem_cons_zero, List.getElem_cons_succ]
        refine wpAnyH_take (i := 27) (v := ?v27) rfl (by kernel_rfl) (by kernel_rfl) (by kernel_rfl) (fun _ _ _ h => h) (Or.inl ⟨by rfl, ?hy27⟩) xx ?r27
        case hy27 => (intro w hSw; (try dsimp only at hSw); go_simp; first | done | with_reducible rfl)
        try simp only [Act.put, List.setIfInBounds_toArray, List.set_cons_zero, List.set_cons_succ, List.getElem_toArray, List.getElem_cons_zero, List.getElem_cons_succ]
        refine wpAnyH_take (i := 29) (v := ?v29) rfl (by kernel_rfl) (by kernel_rfl) (by kernel_rfl) (fun _ _ _ h => h) (Or.inl ⟨by rfl, ?hy29⟩) xx ?r29
        case hy29 => (intro w hSw; (try dsimp only at hSw); go_simp; first | done | with_reducible rfl)
        try simp only [Act.put, List.setIfInBounds_toArray, List.set_cons_zero, List.set_cons_succ, List.getElem_toArray, List.getElem_cons_zero, List.getElem_cons_succ]
        refine wpAnyH_ready (rs := [28]) (by kernel_rfl) (by simp) ?_
        refine AllReadyH.cons rfl (fun K hK => ?_) AllReadyH.nil
        go_simp
        (go_at_call 20; refine (tof_any v rv fl a2 n cap2 gs _ (Lib.hid (VU.out.below KK.out)) hn).mono ?_; rintro e wq ⟨ob, od, rfl, ho, hbq⟩; (try replace HO1 := Lib.hid (HO1.out.below hbq)); (try replace HO2 := Lib.hid (HO2.out.below hbq)); replace KK := Lib.hid (nextB KK.out hbq); have xx : wq.cell? ⟨gb, 0, none⟩ = some (.int .i64 0) ∧ wq.cell? ⟨gb, 1, none⟩ = some (.int .i64 0) ∧ wq.cell? ⟨fb, 0, none⟩ = some (.int .i64 0) ∧ wq.cell? ⟨fb, 1, none⟩ = some (.int .i64 0) ∧ wq.cell? ⟨eb, 0, none⟩ = some (.int .i64 0) ∧ wq.cell? ⟨eb, 1, none⟩ = some (.int .i64 0) ∧ wq.cell? ⟨xb, 0, none⟩ = some (.int .i64 v) ∧ wq.cell? ⟨xb, 1, none⟩ = some (.int .u8 rv.toNat) ∧ wq.cell? ⟨xb, 2, none⟩ = some (.int .u8 fl.toNat) ∧ wq.cell? ⟨xb, 3, none⟩ = some (.slice a n cap) ∧ wq.cell? ⟨yb, 0, none⟩ = some (.int .i64 v) ∧ wq.cell? ⟨yb, 1, none⟩ = some (.int .u8 rv.toNat) ∧ wq.cell? ⟨yb, 2, none⟩ = some (.int .u8 fl.toNat) ∧ wq.cell? ⟨yb, 3, none⟩ = some (.slice a2 n cap2) := ⟨cell_at (j := 0) (block_below G.out KK.out), cell_at (j := 1) (block_below G.out KK.out), cell_at (j := 0) (block_below F.out KK.out), cell_at (j := 1) (block_below F.out KK.out), cell_at (j := 0) (block_below E.out KK.out), cell_at (j := 1) (block_below E.out KK.out), cell_at (j := 0) (block_below X.out KK.out), cell_at (j := 1) (block_below X.out KK.out), cell_at (j := 2) (block_below X.out KK.out), cell_at (j := 3) (block_below X.out KK.out), cell_at (j := 0) (block_below Y.out KK.out), cell_at (j := 1) (block_below Y.out KK.out), cell_at (j := 2) (block_below Y.out KK.out), cell_at (j := 3) (block_below Y.out KK.out)⟩; clear hbq; have HO2 := Lib.hid ho)
        refine hK.out _ _ xx (fun hHeld => ?_)
        clear hK K hHeld
        try simp only [Act.put, List.setIfInBounds_toArray, List.set_cons_zero, List.set_cons_succ, List.getElem_toArray, List.getElem_cons_zero, List.getElem_cons_succ]
        refine wpAnyH_ready (rs := [30]) (by kernel_rfl) (by simp) ?_
        refine AllReadyH.cons rfl (fun K hK => ?_) AllReadyH.nil
        go_simp
        (go_at_call 20; refine (tof_any v rv fl a n cap fs _ (Lib.hid (V.out.below KK.out)) hn).mono ?_; rintro e wq ⟨oa, oc, rfl, ho, hbq⟩; (try replace HO1 := Lib.hid (HO1.out.below hbq)); (try replace HO2 := Lib.hid (HO2.out.below hbq)); replace KK := Lib.hid (nextB KK.out hbq); have xx : wq.cell? ⟨gb, 0, none⟩ = some (.int .i64 0) ∧ wq.cell? ⟨gb, 1, none⟩ = some (.int .i64 0) ∧ wq.cell? ⟨fb, 0, none⟩ = some (.int .i64 0) ∧ wq.cell? ⟨fb, 1, none⟩ = some (.int .i64 0) ∧ wq.cell? ⟨eb, 0, none⟩ = some (.int .i64 0) ∧ wq.cell? ⟨eb, 1, none⟩ = some (.int .i64 0) ∧ wq.cell? ⟨xb, 0, none⟩ = some (.int .i64 v) ∧ wq.cell? ⟨xb, 1, none⟩ = some (.int .u8 rv.toNat) ∧ wq.cell? ⟨xb, 2, none⟩ = some (.int .u8 fl.toNat) ∧ wq.cell? ⟨xb, 3, none⟩ = some (.slice a n cap) ∧ wq.cell? ⟨yb, 0, none⟩ = some (.int .i64 v) ∧ wq.cell? ⟨yb, 1, none⟩ = some (.int .u8 rv.toNat) ∧ wq.cell? ⟨yb, 2, none⟩ = some (.int .u8 fl.toNat) ∧ wq.cell? ⟨yb, 3, none⟩ = some (.slice a2 n cap2) := ⟨cell_at (j := 0) (block_below G.out KK.out), cell_at (j := 1) (block_below G.out KK.out), cell_at (j := 0) (block_below F.out KK.out), cell_at (j := 1) (block_below F.out KK.out), cell_at (j := 0) (block_below E.out KK.out), cell_at (j := 1) (block_below E.out KK.out), cell_at (j := 0) (block_below X.out KK.out), cell_at (j := 1) (block_below X.out KK.out), cell_at (j := 2) (block_below X.out KK.out), cell_at (j := 3) (block_below X.out KK.out), cell_at (j := 0) (block_below Y.out KK.out), cell_at (j := 1) (block_below Y.out KK.out), cell_at (j := 2) (block_below Y.out KK.out), cell_at (j := 3) (block_below Y.out KK.out)⟩; clear hbq; have HO1 := Lib.hid ho)
        refine hK.out _ _ xx (fun hHeld => ?_)
        clear hK K hHeld
        try simp only [Act.put, List.setIfInBounds_toArray, List.set_cons_zero, List.set_cons_succ, List.getElem_toArray, List.getElem_cons_zero, List.getElem_cons_succ]
        refine wpAnyH_ready (rs := [31]) (by kernel_rfl) (by simp) ?_
        refine AllReadyH.cons rfl (fun K hK => ?_) AllReadyH.nil
        go_simp
        (go_at_call 19; refine (tsame_yes v rv.toNat fl.toNat ob oa n od oc gs fs false _ HO2 HO1 hn he).mono ?_; rintro e wq ⟨rfl, hbq⟩; (try replace HO1 := Lib.hid (HO1.out.below hbq)); (try replace HO2 := Lib.hid (HO2.out.below hbq)); replace KK := Lib.hid (nextB KK.out hbq); have xx : wq.cell? ⟨gb, 0, none⟩ = some (.int .i64 0) ∧ wq.cell? ⟨gb, 1, none⟩ = some (.int .i64 0) ∧ wq.cell? ⟨fb, 0, none⟩ = some (.int .i64 0) ∧ wq.cell? ⟨fb, 1, none⟩ = some (.int .i64 0) ∧ wq.cell? ⟨eb, 0, none⟩ = some (.int .i64 0) ∧ wq.cell? ⟨eb, 1, none⟩ = some (.int .i64 0) ∧ wq.cell? ⟨xb, 0, none⟩ = some (.int .i64 v) ∧ wq.cell? ⟨xb, 1, none⟩ = some (.int .u8 rv.toNat) ∧ wq.cell? ⟨xb, 2, none⟩ = some (.int .u8 fl.toNat) ∧ wq.cell? ⟨xb, 3, none⟩ = some (.slice a n cap) ∧ wq.cell? ⟨yb, 0, none⟩ = some (.int .i64 v) ∧ wq.cell? ⟨yb, 1, none⟩ = some (.int .u8 rv.toNat) ∧ wq.cell? ⟨yb, 2, none⟩ = some (.int .u8 fl.toNat) ∧ wq.cell? ⟨yb, 3, none⟩ = some (.slice a2 n cap2) := ⟨cell_at (j := 0) (block_below G.out KK.out), cell_at (j := 1) (block_below G.out KK.out), cell_at (j := 0) (block_below F.out KK.out), cell_at (j := 1) (block_below F.out KK.out), cell_at (j := 0) (block_below E.out KK.out), cell_at (j := 1) (block_below E.out KK.out), cell_at (j := 0) (block_below X.out KK.out), cell_at (j := 1) (block_below X.out KK.out), cell_at (j := 2) (block_below X.out KK.out), cell_at (j := 3) (block_below X.out KK.out), cell_at (j := 0) (block_below Y.out KK.out), cell_at (j := 1) (block_below Y.out KK.out), cell_at (j := 2) (block_below Y.out KK.out), cell_at (j := 3) (block_below Y.out KK.out)⟩; clear hbq)
        refine hK.out _ _ xx (fun hHeld => ?_)
        clear hK K hHeld
        try simp only [Act.put, List.setIfInBounds_toArray, List.set_cons_zero, List.set_cons_succ, List.getElem_toArray, List.getElem_cons_zero, List.getElem_cons_succ]
        refine wpAnyH_take (i := 32) (v := ?v32) rfl (by kernel_rfl) (by kernel_rfl) (by kernel_rfl) (fun _ _ _ h => h) (Or.inl ⟨by rfl, ?hy32⟩) xx ?r32
        case hy32 => (intro w hSw; (try dsimp only at hSw); go_simp; first | done | with_reducible rfl)
        try simp only [Act.put, List.setIfInBounds_toArray, List.set_cons_zero, List.set_cons_succ, List.getElem_toArray, List.getElem_cons_zero, List.getElem_cons_succ]
        refine wpAnyH_take (i := 33) (v := ?v33) rfl (by kernel_rfl) (by kernel_rfl) (by kernel_rfl) (fun _ _ _ h => h) (Or.inl ⟨by rfl, ?hy33⟩) xx ?r33
        case hy33 => (intro w hSw; (try dsimp only at hSw); go_simp; first | done | with_reducible rfl)
        try simp only [Act.put, List.setIfInBounds_toArray, List.set_cons_zero, List.set_cons_succ, List.getElem_toArray, List.getElem_cons_zero, List.getElem_cons_succ]
        refine wpAnyH_take (i := 34) (v := ?v34) rfl (by kernel_rfl) (by kernel_rfl) (by kernel_rfl) (fun _ _ _ h => h) (Or.inl ⟨by rfl, ?hy34⟩) xx ?r34
        case hy34 => (intro w hSw; (try dsimp only at hSw); go_simp; first | done | with_reducible rfl)
        try simp only [Act.put, List.setIfInBounds_toArray, List.set_cons_zero, List.set_cons_succ, List.getElem_toArray, List.getElem_cons_zero, List.getElem_cons_succ]
        refine wpAnyH_take (i := 35) (v := ?v35) rfl (by kernel_rfl) (by kernel_rfl) (by kernel_rfl) (fun _ _ _ h => h) (Or.inl ⟨by rfl, ?hy35⟩) xx ?r35
        case hy35 => (intro w hSw; (try dsimp only at hSw); go_simp; first | done | with_reducible rfl)
        try simp only [Act.put, List.setIfInBounds_toArray, List.set_cons_zero, List.set_cons_succ, List.getElem_toArray, List.getElem_cons_zero, List.getElem_cons_succ]
        refine wpAnyH_take (i := 36) (v := undef) rfl (by kernel_rfl) (by kernel_rfl) (by kernel_rfl) (fun _ _ _ h => h) (Or.inr ⟨by rfl, rfl⟩) xx ?_
        try simp only [Act.put, List.setIfInBounds_toArray, List.set_cons_zero, List.set_cons_succ, List.getElem_toArray, List.getElem_cons_zero, List.getElem_cons_succ]
        refine wpAnyH_take (i := 37) (v := undef) rfl (by kernel_rfl) (by kernel_rfl) (by kernel_rfl) (fun _ _ _ h => h) (Or.inr ⟨by rfl, rfl⟩) xx ?_
        try simp only [Act.put, List.setIfInBounds_toArray, List.set_cons_zero, List.set_cons_succ, List.getElem_toArray, List.getElem_cons_zero, List.getElem_cons_succ]
        refine wpAnyH_take (i := 38) (v := undef) rfl (by kernel_rfl) (by kernel_rfl) (by kernel_rfl) (fun _ _ _ h => h) (Or.inr ⟨by rfl, rfl⟩) xx ?_
        try simp only [Act.put, List.setIfInBounds_toArray, List.set_cons_zero, List.set_cons_succ, List.getElem_toArray, List.getElem_cons_zero, List.getElem_cons_succ]
        refine wpAnyH_take (i := 39) (v := undef) rfl (by kernel_rfl) (by kernel_rfl) (by kernel_rfl) (fun _ _ _ h => h) (Or.inr ⟨by rfl, rfl⟩) xx ?_
        try simp only [Act.put, List.setIfInBounds_toArray, List.set_cons_zero, List.set_cons_succ, List.getElem_toArray, List.getElem_cons_zero, List.getElem_cons_succ]
        refine wpAnyH_take (i := 40) (v := undef) rfl (by kernel_rfl) (by kernel_rfl) (by kernel_rfl) (fun _ _ _ h => h) (Or.inr ⟨by rfl, rfl⟩) xx ?_
        try simp only [Act.put, List.setIfInBounds_toArray, List.set_cons_zero, List.set_cons_succ, List.getElem_toArray, List.getElem_cons_zero, List.getElem_cons_succ]
        refine wpAnyH_take (i := 41) (v := undef) rfl (by kernel_rfl) (by kernel_rfl) (by kernel_rfl) (fun _ _ _ h => h) (Or.inr ⟨by rfl, rfl⟩) xx ?_
        try simp only [Act.put, List.setIfInBounds_toArray, List.set_cons_zero, List.set_cons_succ, List.getElem_toArray, List.getElem_cons_zero, List.getElem_cons_succ]
        refine wpAnyH_take (i := 42) (v := undef) rfl (by kernel_rfl) (by kernel_rfl) (by kernel_rfl) (fun _ _ _ h => h) (Or.inr ⟨by rfl, rfl⟩) xx ?_
        try simp only [Act.put, List.setIfInBounds_toArray, List.set_cons_zero, List.set_cons_succ, List.getElem_toArray, List.getElem_cons_zero, List.getElem_cons_succ]
        refine wpAnyH_take (i := 43) (v := undef) rfl (by kernel_rfl) (by kernel_rfl) (by kernel_rfl) (fun _ _ _ h => h) (Or.inr ⟨by rfl, rfl⟩) xx ?_
        try simp only [Act.put, List.setIfInBounds_toArray, List.set_cons_zero, List.set_cons_succ, List.getElem_toArray, List.getElem_cons_zero, List.getElem_cons_succ]
        refine wpAnyH_take (i := 44) (v := ?v44) rfl (by kernel_rfl) (by kernel_rfl) (by kernel_rfl) (fun _ _ _ h => h) (Or.inl ⟨by rfl, ?hy44⟩) xx ?r44
        case hy44 => (intro w hSw; (try dsimp only at hSw); go_simp; first | done | with_reducible rfl)
        try simp only [Act.put, List.setIfInBounds_toArray, List.set_cons_zero, List.set_cons_succ, List.getElem_toArray, List.getElem_cons_zero, List.getElem_cons_succ]
        refine wpAnyH_take (i := 45) (v := ?v45) rfl (by kernel_rfl) (by kernel_rfl) (by kernel_rfl) (fun _ _ _ h => h) (Or.inl ⟨by rfl, ?hy45⟩) xx ?r45
        case hy45 => (intro w hSw; (try dsimp only at hSw); go_simp; first | done | with_reducible rfl)
        try simp only [Act.put, List.setIfInBounds_toArray, List.set_cons_zero, List.set_cons_succ, List.getElem_toArray, List.getElem_cons_zero, List.getElem_cons_succ]
        refine wpAnyH_take (i := 46) (v := ?v46) rfl (by kernel_rfl) (by kernel_rfl) (by kernel_rfl) (fun _ _ _ h => h) (Or.inl ⟨by rfl, ?hy46⟩) xx ?r46
        case hy46 => (intro w hSw; (try dsimp only at hSw); go_simp; first | done | with_reducible rfl)
        try simp only [Act.put, List.setIfInBounds_toArray, List.set_cons_zero, List.set_cons_succ, List.getElem_toArray, List.getElem_cons_zero, List.getElem_cons_succ]
        refine wpAnyH_done (by kernel_rfl) ?_ _
        refine NoPanic.normal ?_
        go_wp2
        go_ret
        exact ⟨rfl, nextB K.out KK.out⟩
end Go.Proofs.Ytmnmonmbdgedbaa
