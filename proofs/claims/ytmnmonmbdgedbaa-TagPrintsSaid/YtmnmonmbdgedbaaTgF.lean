/- Layer 15 (tag): the walk of the statement TagPrints. -/
import Derived.Test.YtmnmonmbdgedbaaTgE
import Derived.Test.YtmnmonmbdgedbaaTgP
import Derived.Deep.RegionHeld3
namespace Go.Proofs.Ytmnmonmbdgedbaa
open Go.RowKit
set_option linter.unusedVariables false
set_option linter.unusedSimpArgs false

theorem tgf_fault09 (c q : Int) (w : World) : Calls Try.prog 27 #[.int .i64 c, .int .i64 q] w fun e w' => e = .returned (.agg #[.int .i64 c, .int .i64 q]) ∧ Below w.heap.size w w' := by
  go_enter Try.func27, Try.ntmps27
  go_wp2
  exact end_cell rfl rfl rfl (at_a0 _ _ _) Try.underlying31 rfl (by kernel_rfl) ⟨rfl, (Below.refl _ _).alloc (Nat.le_refl _) _⟩
set_option maxHeartbeats 4000000 in
set_option maxRecDepth 100000 in
theorem tprints_over (v : Int) (rv fl : UInt8) (a : Option Addr) (n cap : Nat) (sd : List UInt8) (lt : Bool) {HS : World → Prop} (w : World) (hs : Hid (∀ w', Below w.heap.size w w' → HS w'))
    (LG : Hid (∀ w, HS w → Calls Try.prog 14 #[.agg #[.int .i64 v, .int .u8 rv.toNat, .int .u8 fl.toNat, .slice a n cap]] w (SaysB lt w)))
    (h : lt = false ∨ (lt = true ∧ (200 : Int) < sd.length)) :
    Calls Try.prog 7 #[.agg #[.int .i64 v, .int .u8 rv.toNat, .int .u8 fl.toNat, .slice a n cap], .string ⟨sd.toArray⟩] w fun e w' => e = .returned (.bool true) ∧ Below w.heap.size w w' := by
  have HS0 := Lib.hid (hs.out _ ((Below.refl w.heap.size w).alloc (Nat.le_refl _) (.cells #[.int .i64 v, .int .u8 rv.toNat, .int .u8 fl.toNat, .slice a n cap] 26)))
  unfold SaysB at LG
  rcases h with rfl | ⟨rfl, g1⟩
  all_goals (
    go_enter Try.func7, Try.ntmps7
    go_wp2_with (first | (go_at_call 14; (with_reducible refine (LG.out _ HS0.out).mono ?_); rintro e w1 ⟨rfl, hb1⟩; have K := Lib.hid (below_a1 hb1); clear hb1) | (go_at_call 21; (with_reducible refine (awake15' _).mono ?_); rintro e w2 ⟨rfl, hb2⟩; replace K := Lib.hid (nextB K.out (hb2)); clear hb2))
    go_ret
    exact ⟨rfl, K.out⟩)
def TParF (v : Int) (rv fl : UInt8) (n : Nat) (fs : List Fr) (rest : List UInt8) (w : World) (e : Ending) (w' : World) : Prop :=
  ∃ a cap, e = .returned (.tuple #[.agg #[.int .i64 v, .int .u8 rv.toNat, .int .u8 fl.toNat, .slice a n cap], .string ⟨rest.toArray⟩, .agg #[.int .i64 0, .int .i64 0]]) ∧ RecsAt w' a n 6 (fs.map frR) ∧ Below w.heap.size w w'
theorem tparF_of (t : Tg) (rest : List UInt8) (n : Nat) (hn : t.fs.length = n) (w w' : World) (e : Ending) (h : TParse t rest 0 0 w e w') : TParF t.v t.rv t.fl n t.fs rest w e w' := by
  obtain ⟨u, rfl, hr, hb⟩ := h
  obtain ⟨a, cp, rfl, _, hat⟩ := hr.at
  have e : (t.fs.map frR).length = n := by simpa using hn
  rw [e] at hat
  exact ⟨a, cp, by rw [e], hat, hb⟩
set_option maxHeartbeats 16000000 in
set_option maxRecDepth 100000 in
theorem tprints_in (v : Int) (rv fl : UInt8) (a : Option Addr) (n cap : Nat) (fs gs : List Fr) (s sd : List UInt8) (c q : Int) (w : World) (hs : Hid (RecsAt w a n 6 (fs.map frR))) (hn : n ≤ 1000000) (hsd : ¬ (200 : Int) < sd.length) (hsl : s.length ≤ 1000000)
    (LG : Hid (∀ w, RecsAt w a n 6 (fs.map frR) → Calls Try.prog 14 #[.agg #[.int .i64 v, .int .u8 rv.toNat, .int .u8 fl.toNat, .slice a n cap]] w (SaysB true w)))
    (PR : Hid (∀ w, RecsAt w a n 6 (fs.map frR) → Calls Try.prog 15 #[.agg #[.int .i64 v, .int .u8 rv.toNat, .int .u8 fl.toNat, .slice a n cap]] w (TPrints s (c, q) w)))
    (CK : Hid (∀ w, RecsAt w a n 6 (fs.map frR) → Calls Try.prog 30 #[.agg #[.int .i64 v, .int .u8 rv.toNat, .int .u8 fl.toNat, .slice a n cap]] w (CheckT (c, q) w)))
    (RC : Hid (∀ a2 cap2 w, RecsAt w a2 n 6 (fs.map rfR) → Calls Try.prog 29 #[.agg #[.int .i64 v, .int .i64 rv.toNat, .int .i64 fl.toNat, .slice a2 n cap2]] w (RCk (c, q) w)))
    (hg : (c ≠ 0 ∧ s = []) ∨ (c = 0 ∧ q = 0 ∧ Hid (gs.map (fun f => if false = true then f else zeroPl' f) = fs.map (fun f => if false = true then f else zeroPl' f)) ∧
      Hid (∀ w, Calls Try.prog 17 #[.string ⟨(s ++ sd).toArray⟩] w (TParF v rv fl n gs sd w)) ∧
      Hid (∀ a2 cap2 w, RecsAt w a2 n 6 (fs.map rfR) → Calls Try.prog 31 #[.agg #[.int .i64 v, .int .i64 rv.toNat, .int .i64 fl.toNat, .slice a2 n cap2]] w fun e w' => e = .returned (.string ⟨s.toArray⟩) ∧ Below w.heap.size w w'))) :
    Calls Try.prog 7 #[.agg #[.int .i64 v, .int .u8 rv.toNat, .int .u8 fl.toNat, .slice a n cap], .string ⟨sd.toArray⟩] w fun e w' => e = .returned (.bool true) ∧ Below w.heap.size w w' := by
  have F9 := Lib.hid (fun w => tgf_fault09 c q w)
  have HS0 := Lib.hid (hs.out.below ((Below.refl w.heap.size w).alloc (Nat.le_refl _) (.cells #[.int .i64 v, .int .u8 rv.toNat, .int .u8 fl.toNat, .slice a n cap] 26)))
  unfold SaysB TPrints CheckT RCk at *
  go_enter Try.func7, Try.ntmps7
  go_upto_region 4 with (first | (go_at_call 14; (with_reducible refine (LG.out _ HS0.out).mono ?_); rintro e w1 ⟨rfl, hb1⟩; have X := Lib.hid (block_below (at_a0 w #[.int .i64 v, .int .u8 rv.toNat, .int .u8 fl.toNat, .slice a n cap] 26) hb1); have K := Lib.hid (below_a1 hb1); clear hb1; obtain ⟨x0, x1, x2, x3⟩ := cells4 (X.out)) | (go_at_call 15; (with_reducible refine (PR.out _ (hs.out.below K.out)).mono ?_); rintro e w2 ⟨rfl, hb2⟩; replace X := Lib.hid (block_below X.out (hb2)); replace K := Lib.hid (nextB K.out (hb2)); clear hb2))
  clear x0 x1 x2 x3
  obtain ⟨xb, hxb⟩ : ∃ xb, xb = w.heap.size := ⟨_, rfl⟩
  rw [← hxb]
  rw [← hxb] at X
  clear hxb
  have G := Lib.hid (at_a0 w2 #[.int .i64 c, .int .i64 q] 31)
  have hB := ((Below.refl w2.heap.size w2).alloc (Nat.le_refl _) (.cells #[.int .i64 c, .int .i64 q] 31))
  replace X := Lib.hid (block_below X.out hB)
  replace K := Lib.hid (nextB K.out hB)
  clear hB
  generalize w2.alloc (.cells #[.int .i64 c, .int .i64 q] 31) = v2 at *
  generalize w2.heap.size = gb at *
  obtain ⟨x0, x1, x2, x3⟩ := cells4 (X.out)
  go_upto_region 5 with (go_at_call 20; (with_reducible refine (tof_any v rv fl a n cap fs _ (Lib.hid (hs.out.below K.out)) hn).mono ?_); rintro e w3 ⟨a2, cap2, rfl, ho, hb3⟩; replace X := Lib.hid (block_below X.out (hb3)); replace G := Lib.hid (block_below G.out (hb3)); replace K := Lib.hid (nextB K.out (hb3)); clear hb3; have VM := Lib.hid ho; clear ho)
  clear x0 x1 x2 x3
  have M := Lib.hid (at_a0 w3 #[.int .i64 v, .int .i64 rv.toNat, .int .i64 fl.toNat, .slice a2 n cap2] 40)
  have hB := ((Below.refl w3.heap.size w3).alloc (Nat.le_refl _) (.cells #[.int .i64 v, .int .i64 rv.toNat, .int .i64 fl.toNat, .slice a2 n cap2] 40))
  replace X := Lib.hid (block_below X.out hB)
  replace G := Lib.hid (block_below G.out hB)
  replace VM := Lib.hid (VM.out.below hB)
  replace K := Lib.hid (nextB K.out hB)
  clear hB
  generalize w3.alloc (.cells #[.int .i64 v, .int .i64 rv.toNat, .int .i64 fl.toNat, .slice a2 n cap2] 40) = v3 at *
  generalize w3.heap.size = mb at *
  obtain ⟨m0, m1, m2, m3⟩ := cells4 (M.out)
  go_upto_region 6 with (go_at_call 29; (with_reducible refine (RC.out _ _ _ VM.out).mono ?_); rintro e w4 ⟨rfl, hb4⟩; replace X := Lib.hid (block_below X.out (hb4)); replace G := Lib.hid (block_below G.out (hb4)); replace M := Lib.hid (block_below M.out (hb4)); replace VM := Lib.hid (VM.out.below (hb4)); replace K := Lib.hid (nextB K.out (hb4)); clear hb4)
  clear m0 m1 m2 m3
  have KK : Hid (Below w4.heap.size w4 w4.drew) := Lib.hid (Below.refl w4.heap.size w4).drew
  have cc : w4.cell? ⟨xb, 0, none⟩ = some (.int .i64 v) ∧ w4.cell? ⟨xb, 1, none⟩ = some (.int .u8 rv.toNat) ∧ w4.cell? ⟨xb, 2, none⟩ = some (.int .u8 fl.toNat) ∧ w4.cell? ⟨xb, 3, none⟩ = some (.slice a n cap) ∧ w4.cell? ⟨gb, 0, none⟩ = some (.int .i64 c) ∧ w4.cell? ⟨gb, 1, none⟩ = some (.int .i64 q) := ⟨cell_at (j := 0) (X.out), cell_at (j := 1) (X.out), cell_at (j := 2) (X.out), cell_at (j := 3) (X.out), cell_at (j := 0) (G.out), cell_at (j := 1) (G.out)⟩
  have ccd : (w4.drew).cell? ⟨xb, 0, none⟩ = some (.int .i64 v) ∧ (w4.drew).cell? ⟨xb, 1, none⟩ = some (.int .u8 rv.toNat) ∧ (w4.drew).cell? ⟨xb, 2, none⟩ = some (.int .u8 fl.toNat) ∧ (w4.drew).cell? ⟨xb, 3, none⟩ = some (.slice a n cap) ∧ (w4.drew).cell? ⟨gb, 0, none⟩ = some (.int .i64 c) ∧ (w4.drew).cell? ⟨gb, 1, none⟩ = some (.int .i64 q) := cc
  first | (go_region_held3 (fun w' => w'.cell? ⟨xb, 0, none⟩ = some (.int .i64 v) ∧ w'.cell? ⟨xb, 1, none⟩ = some (.int .u8 rv.toNat) ∧ w'.cell? ⟨xb, 2, none⟩ = some (.int .u8 fl.toNat) ∧ w'.cell? ⟨xb, 3, none⟩ = some (.slice a n cap) ∧ w'.cell? ⟨gb, 0, none⟩ = some (.int .i64 c) ∧ w'.cell? ⟨gb, 1, none⟩ = some (.int .i64 q)) (first | with_reducible exact ccd | with_reducible exact xx | fail)
    (first | (go_at_call 27; (with_reducible refine (F9.out _).mono ?_); rintro e wq ⟨rfl, hbq⟩; replace KK := Lib.hid (nextB KK.out hbq); have xx : wq.cell? ⟨xb, 0, none⟩ = some (.int .i64 v) ∧ wq.cell? ⟨xb, 1, none⟩ = some (.int .u8 rv.toNat) ∧ wq.cell? ⟨xb, 2, none⟩ = some (.int .u8 fl.toNat) ∧ wq.cell? ⟨xb, 3, none⟩ = some (.slice a n cap) ∧ wq.cell? ⟨gb, 0, none⟩ = some (.int .i64 c) ∧ wq.cell? ⟨gb, 1, none⟩ = some (.int .i64 q) := ⟨cell_at (j := 0) (block_below X.out KK.out), cell_at (j := 1) (block_below X.out KK.out), cell_at (j := 2) (block_below X.out KK.out), cell_at (j := 3) (block_below X.out KK.out), cell_at (j := 0) (block_below G.out KK.out), cell_at (j := 1) (block_below G.out KK.out)⟩; clear hbq) | (go_at_call 30; (with_reducible refine (CK.out _ (hs.out.below (nextB K.out KK.out))).mono ?_); rintro e wq ⟨rfl, hbq⟩; replace KK := Lib.hid (nextB KK.out hbq); have xx : wq.cell? ⟨xb, 0, none⟩ = some (.int .i64 v) ∧ wq.cell? ⟨xb, 1, none⟩ = some (.int .u8 rv.toNat) ∧ wq.cell? ⟨xb, 2, none⟩ = some (.int .u8 fl.toNat) ∧ wq.cell? ⟨xb, 3, none⟩ = some (.slice a n cap) ∧ wq.cell? ⟨gb, 0, none⟩ = some (.int .i64 c) ∧ wq.cell? ⟨gb, 1, none⟩ = some (.int .i64 q) := ⟨cell_at (j := 0) (block_below X.out KK.out), cell_at (j := 1) (block_below X.out KK.out), cell_at (j := 2) (block_below X.out KK.out), cell_at (j := 3) (block_below X.out KK.out), cell_at (j := 0) (block_below G.out KK.out), cell_at (j := 1) (block_below G.out KK.out)⟩; clear hbq))) | fail
  replace M := Lib.hid (block_below M.out KK.out)
  replace VM := Lib.hid (VM.out.below KK.out)
  replace K := Lib.hid (nextB K.out KK.out)
  clear KK cc ccd xx X G
  rcases hg with ⟨hc, rfl⟩ | ⟨rfl, rfl, he, PA, RPT⟩
  · have tc : (c != 0) = true := by simpa using hc
    go_wp2_with (go_at_call 21; (with_reducible refine (awake15' _).mono ?_); rintro e w5 ⟨rfl, hb5⟩; replace K := Lib.hid (nextB K.out (hb5)); clear hb5)
    go_ret
    exact ⟨rfl, K.out⟩
  · unfold TParF at PA
    have BD := Lib.hid (fun w => bad_any 0 0 w)
    rw [show ((0 : Int) != 0) = false by rfl] at BD
    go_upto_region 11 with (go_at_call 17; (with_reducible refine (PA.out _).mono ?_); rintro e w5 ⟨a3, cap3, rfl, hv, hb5⟩; replace M := Lib.hid (block_below M.out (hb5)); replace VM := Lib.hid (VM.out.below (hb5)); replace K := Lib.hid (nextB K.out (hb5)); clear hb5; have VU := Lib.hid hv; clear hv)
    have U := Lib.hid (at_a1 w5 #[.int .i64 v, .int .u8 rv.toNat, .int .u8 fl.toNat, .slice a3 n cap3] 26 (.cells #[.int .i64 0, .int .i64 0] 31))
    have F := Lib.hid (at_a2 w5 #[.int .i64 0, .int .i64 0] 31 (.cells #[.int .i64 v, .int .u8 rv.toNat, .int .u8 fl.toNat, .slice a3 n cap3] 26))
    have hB := (((Below.refl w5.heap.size w5).alloc (Nat.le_refl _) (.cells #[.int .i64 v, .int .u8 rv.toNat, .int .u8 fl.toNat, .slice a3 n cap3] 26)).alloc (by simp) (.cells #[.int .i64 0, .int .i64 0] 31))
    replace VU := Lib.hid (VU.out.below hB)
    replace VM := Lib.hid (VM.out.below hB)
    replace M := Lib.hid (block_below M.out hB)
    replace K := Lib.hid (nextB K.out hB)
    clear hB
    generalize (w5.alloc (.cells #[.int .i64 v, .int .u8 rv.toNat, .int .u8 fl.toNat, .slice a3 n cap3] 26)).alloc (.cells #[.int .i64 0, .int .i64 0] 31) = v6 at *
    obtain ⟨fb, hfb⟩ : ∃ fb, fb = w5.heap.size + 1 := ⟨_, rfl⟩
    rw [← hfb]
    rw [← hfb] at F
    clear hfb
    generalize w5.heap.size = ub at *
    have KK : Hid (Below v6.heap.size v6 v6.drew) := Lib.hid (Below.refl v6.heap.size v6).drew
    have cc : v6.cell? ⟨mb, 0, none⟩ = some (.int .i64 v) ∧ v6.cell? ⟨mb, 1, none⟩ = some (.int .i64 rv.toNat) ∧ v6.cell? ⟨mb, 2, none⟩ = some (.int .i64 fl.toNat) ∧ v6.cell? ⟨mb, 3, none⟩ = some (.slice a2 n cap2) ∧ v6.cell? ⟨ub, 0, none⟩ = some (.int .i64 v) ∧ v6.cell? ⟨ub, 1, none⟩ = some (.int .u8 rv.toNat) ∧ v6.cell? ⟨ub, 2, none⟩ = some (.int .u8 fl.toNat) ∧ v6.cell? ⟨ub, 3, none⟩ = some (.slice a3 n cap3) ∧ v6.cell? ⟨fb, 0, none⟩ = some (.int .i64 0) ∧ v6.cell? ⟨fb, 1, none⟩ = some (.int .i64 0) := ⟨cell_at (j := 0) (M.out), cell_at (j := 1) (M.out), cell_at (j := 2) (M.out), cell_at (j := 3) (M.out), cell_at (j := 0) (U.out), cell_at (j := 1) (U.out), cell_at (j := 2) (U.out), cell_at (j := 3) (U.out), cell_at (j := 0) (F.out), cell_at (j := 1) (F.out)⟩
    have ccd : (v6.drew).cell? ⟨mb, 0, none⟩ = some (.int .i64 v) ∧ (v6.drew).cell? ⟨mb, 1, none⟩ = some (.int .i64 rv.toNat) ∧ (v6.drew).cell? ⟨mb, 2, none⟩ = some (.int .i64 fl.toNat) ∧ (v6.drew).cell? ⟨mb, 3, none⟩ = some (.slice a2 n cap2) ∧ (v6.drew).cell? ⟨ub, 0, none⟩ = some (.int .i64 v) ∧ (v6.drew).cell? ⟨ub, 1, none⟩ = some (.int .u8 rv.toNat) ∧ (v6.drew).cell? ⟨ub, 2, none⟩ = some (.int .u8 fl.toNat) ∧ (v6.drew).cell? ⟨ub, 3, none⟩ = some (.slice a3 n cap3) ∧ (v6.drew).cell? ⟨fb, 0, none⟩ = some (.int .i64 0) ∧ (v6.drew).cell? ⟨fb, 1, none⟩ = some (.int .i64 0) := cc
    first | (go_region_held3 (fun w' => w'.cell? ⟨mb, 0, none⟩ = some (.int .i64 v) ∧ w'.cell? ⟨mb, 1, none⟩ = some (.int .i64 rv.toNat) ∧ w'.cell? ⟨mb, 2, none⟩ = some (.int .i64 fl.toNat) ∧ w'.cell? ⟨mb, 3, none⟩ = some (.slice a2 n cap2) ∧ w'.cell? ⟨ub, 0, none⟩ = some (.int .i64 v) ∧ w'.cell? ⟨ub, 1, none⟩ = some (.int .u8 rv.toNat) ∧ w'.cell? ⟨ub, 2, none⟩ = some (.int .u8 fl.toNat) ∧ w'.cell? ⟨ub, 3, none⟩ = some (.slice a3 n cap3) ∧ w'.cell? ⟨fb, 0, none⟩ = some (.int .i64 0) ∧ w'.cell? ⟨fb, 1, none⟩ = some (.int .i64 0)) (first | with_reducible exact ccd | with_reducible exact xx | fail)
      (first | (go_at_call 21; (with_reducible refine (awake15' _).mono ?_); rintro e wq ⟨rfl, hbq⟩; (try replace HO := Lib.hid (HO.out.below hbq)); replace KK := Lib.hid (nextB KK.out hbq); have xx : wq.cell? ⟨mb, 0, none⟩ = some (.int .i64 v) ∧ wq.cell? ⟨mb, 1, none⟩ = some (.int .i64 rv.toNat) ∧ wq.cell? ⟨mb, 2, none⟩ = some (.int .i64 fl.toNat) ∧ wq.cell? ⟨mb, 3, none⟩ = some (.slice a2 n cap2) ∧ wq.cell? ⟨ub, 0, none⟩ = some (.int .i64 v) ∧ wq.cell? ⟨ub, 1, none⟩ = some (.int .u8 rv.toNat) ∧ wq.cell? ⟨ub, 2, none⟩ = some (.int .u8 fl.toNat) ∧ wq.cell? ⟨ub, 3, none⟩ = some (.slice a3 n cap3) ∧ wq.cell? ⟨fb, 0, none⟩ = some (.int .i64 0) ∧ wq.cell? ⟨fb, 1, none⟩ = some (.int .i64 0) := ⟨cell_at (j := 0) (block_below M.out KK.out), cell_at (j := 1) (block_below M.out KK.out), cell_at (j := 2) (block_below M.out KK.out), cell_at (j := 3) (block_below M.out KK.out), cell_at (j := 0) (block_below U.out KK.out), cell_at (j := 1) (block_below U.out KK.out), cell_at (j := 2) (block_below U.out KK.out), cell_at (j := 3) (block_below U.out KK.out), cell_at (j := 0) (block_below F.out KK.out), cell_at (j := 1) (block_below F.out KK.out)⟩; clear hbq) | (go_at_call 31; (with_reducible refine (RPT.out _ _ _ (VM.out.below KK.out)).mono ?_); rintro e wq ⟨rfl, hbq⟩; (try replace HO := Lib.hid (HO.out.below hbq)); replace KK := Lib.hid (nextB KK.out hbq); have xx : wq.cell? ⟨mb, 0, none⟩ = some (.int .i64 v) ∧ wq.cell? ⟨mb, 1, none⟩ = some (.int .i64 rv.toNat) ∧ wq.cell? ⟨mb, 2, none⟩ = some (.int .i64 fl.toNat) ∧ wq.cell? ⟨mb, 3, none⟩ = some (.slice a2 n cap2) ∧ wq.cell? ⟨ub, 0, none⟩ = some (.int .i64 v) ∧ wq.cell? ⟨ub, 1, none⟩ = some (.int .u8 rv.toNat) ∧ wq.cell? ⟨ub, 2, none⟩ = some (.int .u8 fl.toNat) ∧ wq.cell? ⟨ub, 3, none⟩ = some (.slice a3 n cap3) ∧ wq.cell? ⟨fb, 0, none⟩ = some (.int .i64 0) ∧ wq.cell? ⟨fb, 1, none⟩ = some (.int .i64 0) := ⟨cell_at (j := 0) (block_below M.out KK.out), cell_at (j := 1) (block_below M.out KK.out), cell_at (j := 2) (block_below M.out KK.out), cell_at (j := 3) (block_below M.out KK.out), cell_at (j := 0) (block_below U.out KK.out), cell_at (j := 1) (block_below U.out KK.out), cell_at (j := 2) (block_below U.out KK.out), cell_at (j := 3) (block_below U.out KK.out), cell_at (j := 0) (block_below F.out KK.out), cell_at (j := 1) (block_below F.out KK.out)⟩; clear hbq) | (go_at_call 16; (with_reducible refine (BD.out _).mono ?_); rintro e wq ⟨rfl, hbq⟩; (try replace HO := Lib.hid (HO.out.below hbq)); replace KK := Lib.hid (nextB KK.out hbq); have xx : wq.cell? ⟨mb, 0, none⟩ = some (.int .i64 v) ∧ wq.cell? ⟨mb, 1, none⟩ = some (.int .i64 rv.toNat) ∧ wq.cell? ⟨mb, 2, none⟩ = some (.int .i64 fl.toNat) ∧ wq.cell? ⟨mb, 3, none⟩ = some (.slice a2 n cap2) ∧ wq.cell? ⟨ub, 0, none⟩ = some (.int .i64 v) ∧ wq.cell? ⟨ub, 1, none⟩ = some (.int .u8 rv.toNat) ∧ wq.cell? ⟨ub, 2, none⟩ = some (.int .u8 fl.toNat) ∧ wq.cell? ⟨ub, 3, none⟩ = some (.slice a3 n cap3) ∧ wq.cell? ⟨fb, 0, none⟩ = some (.int .i64 0) ∧ wq.cell? ⟨fb, 1, none⟩ = some (.int .i64 0) := ⟨cell_at (j := 0) (block_below M.out KK.out), cell_at (j := 1) (block_below M.out KK.out), cell_at (j := 2) (block_below M.out KK.out), cell_at (j := 3) (block_below M.out KK.out), cell_at (j := 0) (block_below U.out KK.out), cell_at (j := 1) (block_below U.out KK.out), cell_at (j := 2) (block_below U.out KK.out), cell_at (j := 3) (block_below U.out KK.out), cell_at (j := 0) (block_below F.out KK.out), cell_at (j := 1) (block_below F.out KK.out)⟩; clear hbq) | (go_at_call 20; (with_reducible refine (tof_any v rv fl a3 n cap3 gs _ (Lib.hid (VU.out.below KK.out)) hn).mono ?_); rintro e wq ⟨oa, oc, rfl, ho, hbq⟩; (try replace HO := Lib.hid (HO.out.below hbq)); replace KK := Lib.hid (nextB KK.out hbq); have xx : wq.cell? ⟨mb, 0, none⟩ = some (.int .i64 v) ∧ wq.cell? ⟨mb, 1, none⟩ = some (.int .i64 rv.toNat) ∧ wq.cell? ⟨mb, 2, none⟩ = some (.int .i64 fl.toNat) ∧ wq.cell? ⟨mb, 3, none⟩ = some (.slice a2 n cap2) ∧ wq.cell? ⟨ub, 0, none⟩ = some (.int .i64 v) ∧ wq.cell? ⟨ub, 1, none⟩ = some (.int .u8 rv.toNat) ∧ wq.cell? ⟨ub, 2, none⟩ = some (.int .u8 fl.toNat) ∧ wq.cell? ⟨ub, 3, none⟩ = some (.slice a3 n cap3) ∧ wq.cell? ⟨fb, 0, none⟩ = some (.int .i64 0) ∧ wq.cell? ⟨fb, 1, none⟩ = some (.int .i64 0) := ⟨cell_at (j := 0) (block_below M.out KK.out), cell_at (j := 1) (block_below M.out KK.out), cell_at (j := 2) (block_below M.out KK.out), cell_at (j := 3) (block_below M.out KK.out), cell_at (j := 0) (block_below U.out KK.out), cell_at (j := 1) (block_below U.out KK.out), cell_at (j := 2) (block_below U.out KK.out), cell_at (j := 3) (block_below U.out KK.out), cell_at (j := 0) (block_below F.out KK.out), cell_at (j := 1) (block_below F.out KK.out)⟩; clear hbq; have HO := Lib.hid ho; clear ho) | (go_at_call 19; (with_reducible refine (tsame_yes v rv.toNat fl.toNat oa a2 n oc cap2 gs fs false _ HO (Lib.hid (VM.out.below KK.out)) hn he).mono ?_); rintro e wq ⟨rfl, hbq⟩; (try replace HO := Lib.hid (HO.out.below hbq)); replace KK := Lib.hid (nextB KK.out hbq); have xx : wq.cell? ⟨mb, 0, none⟩ = some (.int .i64 v) ∧ wq.cell? ⟨mb, 1, none⟩ = some (.int .i64 rv.toNat) ∧ wq.cell? ⟨mb, 2, none⟩ = some (.int .i64 fl.toNat) ∧ wq.cell? ⟨mb, 3, none⟩ = some (.slice a2 n cap2) ∧ wq.cell? ⟨ub, 0, none⟩ = some (.int .i64 v) ∧ wq.cell? ⟨ub, 1, none⟩ = some (.int .u8 rv.toNat) ∧ wq.cell? ⟨ub, 2, none⟩ = some (.int .u8 fl.toNat) ∧ wq.cell? ⟨ub, 3, none⟩ = some (.slice a3 n cap3) ∧ wq.cell? ⟨fb, 0, none⟩ = some (.int .i64 0) ∧ wq.cell? ⟨fb, 1, none⟩ = some (.int .i64 0) := ⟨cell_at (j := 0) (block_below M.out KK.out), cell_at (j := 1) (block_below M.out KK.out), cell_at (j := 2) (block_below M.out KK.out), cell_at (j := 3) (block_below M.out KK.out), cell_at (j := 0) (block_below U.out KK.out), cell_at (j := 1) (block_below U.out KK.out), cell_at (j := 2) (block_below U.out KK.out), cell_at (j := 3) (block_below U.out KK.out), cell_at (j := 0) (block_below F.out KK.out), cell_at (j := 1) (block_below F.out KK.out)⟩; clear hbq))) | fail
    all_goals (go_wp2; go_ret; exact ⟨rfl, nextB K.out KK.out⟩)
end Go.Proofs.Ytmnmonmbdgedbaa
