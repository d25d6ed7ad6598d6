/- The statement TopSync: its walk, where a tag is printed. | The statement TopSync, joined. -/
import Derived.Test.YtmnmonmbdgedbaaTgX
import Derived.Test.YtmnmonmbdgedbaaTgP

namespace Go.Proofs.Ytmnmonmbdgedbaa
open Go.RowKit
set_option linter.unusedVariables false
set_option linter.unusedSimpArgs false

def TParS (v : Int) (rv fl : UInt8) (n : Nat) (fs : List Fr) (rest : List UInt8) (w : World) (e : Ending) (w' : World) : Prop :=
  ∃ a cap, e = .returned (.tuple #[.agg #[.int .i64 v, .int .u8 rv.toNat, .int .u8 fl.toNat, .slice a n cap], .string ⟨rest.toArray⟩, .agg #[.int .i64 0, .int .i64 0]]) ∧ Recs w' w.heap.size 47 6 (.slice a n cap) (fs.map frR) ∧ Below w.heap.size w w'
theorem tparS_of (t : Tg) (rest : List UInt8) (n : Nat) (hn : t.fs.length = n) (w w' : World) (e : Ending) (h : TParse t rest 0 0 w e w') : TParS t.v t.rv t.fl n t.fs rest w e w' := by
  obtain ⟨u, rfl, hr, hb⟩ := h
  obtain ⟨a, cp, rfl, _, hat⟩ := hr.at
  have e : (t.fs.map frR).length = n := by simpa using hn
  rw [e] at hr
  exact ⟨a, cp, by rw [e], hr, hb⟩
set_option maxHeartbeats 16000000 in
set_option maxRecDepth 100000 in
theorem tsync_in (v : Int) (rv fl f0 f1 : UInt8) (a : Option Addr) (n cap : Nat) (sd : List UInt8) (s0 s1 bd : List UInt8) (gs : List Fr) {HS : World → Prop} (w : World) (hs : Hid (∀ w', Below w.heap.size w w' → HS w')) (hv : v = 2 ∨ v = 3) (hsd : ¬ (200 : Int) < sd.length)
    (e0 : bits .andNot .u8 (fl.toNat : Int) 128 = (f0.toNat : Int)) (e1 : bits .or .u8 (f0.toNat : Int) 128 = (f1.toNat : Int))
    (LG : Hid (∀ w, HS w → Calls Try.prog 14 #[.agg #[.int .i64 v, .int .u8 rv.toNat, .int .u8 fl.toNat, .slice a n cap]] w (SaysB true w))) (hn : n ≤ 1000000)
    (PR0 : Hid (∀ w, HS w → Calls Try.prog 15 #[.agg #[.int .i64 v, .int .u8 rv.toNat, .int .u8 f0.toNat, .slice a n cap]] w (TPrints s0 (0, 0) w)))
    (PR1 : Hid (∀ w, HS w → Calls Try.prog 15 #[.agg #[.int .i64 v, .int .u8 rv.toNat, .int .u8 f1.toNat, .slice a n cap]] w (TPrints s1 (0, 0) w)))
    (PA : Hid (∀ w, Calls Try.prog 17 #[.string ⟨(s0 ++ sd).toArray⟩] w (TParS v rv f0 n gs sd w)))
    (PB : Hid (∀ w, Calls Try.prog 17 #[.string ⟨(s1 ++ sd).toArray⟩] w (TParS v rv f1 n gs sd w)))
    (PT : Hid (∀ w, Calls Try.prog 18 #[.string ⟨bd.toArray⟩] w fun e w' => e = .returned (.string ⟨(sndPut bd).toArray⟩) ∧ Below w.heap.size w w'))
    (l0 : (10 : Int) ≤ s0.length) (l1 : (10 : Int) ≤ s1.length) (H0 : List.take (s0.length - 10) (List.drop 10 s0) = bd) (H1 : List.take (s1.length - 10) (List.drop 10 s1) = sndPut bd) (hl0 : s0.length ≤ 1000000) (hl1 : s1.length ≤ 1000000) :
    Calls Try.prog 3 #[.agg #[.int .i64 v, .int .u8 rv.toNat, .int .u8 fl.toNat, .slice a n cap], .string ⟨sd.toArray⟩] w fun e w' => e = .returned (.bool true) ∧ Below w.heap.size w w' := by
  have BD := Lib.hid (fun w => bad_any 0 0 w)
  rw [show ((0 : Int) != 0) = false by rfl] at BD
  have hv2 : (v != 2) = false ∨ ((v != 2) = true ∧ (v != 3) = false) := by rcases hv with rfl | rfl; exact .inl rfl; exact .inr ⟨rfl, rfl⟩
  have m0 : ¬ (s0.length : Int) < 10 := by omega
  have m1 : ¬ (s1.length : Int) < 10 := by omega
  have n0 : 10 ≤ s0.length := by omega
  have d0 : decide ((s0.length : Int) < 10) = false := by simpa using l0
  have d1 : decide ((s1.length : Int) < 10) = false := by simpa using l1
  have n1 : 10 ≤ s1.length := by omega
  clear hv
  unfold TParS at PA PB
  rcases hv2 with g2 | ⟨g2, g3⟩
  all_goals (
    unfold SaysB TPrints at *
    go_enter Try.func3, Try.ntmps3
    go_upto_region 5 with (first | (go_at_call 12; (with_reducible refine (awake11 _).mono ?_); rintro e w1 ⟨rfl, hb1⟩; have X := Lib.hid (block_below (at_a0 w #[.int .i64 v, .int .u8 rv.toNat, .int .u8 fl.toNat, .slice a n cap] 26) hb1); have K := Lib.hid (below_a1 hb1); clear hb1) | (go_at_call 13; (with_reducible refine (awake15 _).mono ?_); rintro e w2 ⟨rfl, hb2⟩; replace X := Lib.hid (block_below X.out (hb2)); replace K := Lib.hid (nextB K.out (hb2)); clear hb2; obtain ⟨x0, x1, x2, x3⟩ := cells4 (X.out)) | (go_at_call 14; (with_reducible refine (LG.out _ (hs.out _ K.out)).mono ?_); rintro e w3 ⟨rfl, hb3⟩; replace X := Lib.hid (block_below X.out (hb3)); replace K := Lib.hid (nextB K.out (hb3)); clear hb3; obtain ⟨y0, y1, y2, y3⟩ := cells4 (X.out)))
    clear x0 x1 x2 x3 y0 y1 y2 y3
    obtain ⟨xb, hxb⟩ : ∃ xb, xb = w.heap.size := ⟨_, rfl⟩
    rw [← hxb]
    replace X : Hid (w3.heap[xb]? = some (.cells #[.int .i64 v, .int .u8 rv.toNat, .int .u8 fl.toNat, .slice a n cap] 26 (0, 0))) := Lib.hid (by rw [hxb]; exact X.out)
    have hxw : w.heap.size ≤ xb := by omega
    clear hxb
    obtain ⟨x0, x1, x2, x3⟩ := cells4 (X.out); obtain ⟨xf0, xf1, xf2, xf3⟩ := frees4 (X.out)
    go_upto_region 6 with (fail)
    have X2 : Hid ((w3.setCell ⟨xb, 2, none⟩ (.int .u8 f0.toNat)).heap[xb]? = some (.cells #[.int .i64 v, .int .u8 rv.toNat, .int .u8 f0.toNat, .slice a n cap] 26 (0, 0))) := Lib.hid (setCell_at X.out)
    replace K : Hid (Below w.heap.size w (w3.setCell ⟨xb, 2, none⟩ (.int .u8 f0.toNat))) := Lib.hid (Below.setCell (p := ⟨xb, 2, none⟩) K.out hxw _)
    clear x0 x1 x2 x3 xf0 xf1 xf2 xf3 X
    generalize w3.setCell ⟨xb, 2, none⟩ (.int .u8 f0.toNat) = v1 at *
    obtain ⟨x0, x1, x2, x3⟩ := cells4 (X2.out)
    go_upto_region 7 with (go_at_call 15; (with_reducible refine (PR0.out _ (hs.out _ K.out)).mono ?_); rintro e w4 ⟨rfl, hb4⟩; replace X2 := Lib.hid (block_below X2.out (hb4)); replace K := Lib.hid (nextB K.out (hb4)); clear hb4)
    clear x0 x1 x2 x3
    have G := Lib.hid (at_a0 w4 #[.int .i64 0, .int .i64 0] 31)
    have hB := ((Below.refl w4.heap.size w4).alloc (Nat.le_refl _) (.cells #[.int .i64 0, .int .i64 0] 31))
    replace X2 := Lib.hid (block_below X2.out hB)
    replace K := Lib.hid (nextB K.out hB)
    have hgx : xb ≠ w4.heap.size := by have := (Array.getElem?_eq_some_iff.1 X2.out).1; intro e; have h := X2.out; rw [e, at_a0] at h; simp at h
    clear hB
    generalize w4.alloc (.cells #[.int .i64 0, .int .i64 0] 31) = v2 at *
    generalize w4.heap.size = gb at *
    obtain ⟨x0, x1, x2, x3⟩ := cells4 (X2.out); obtain ⟨xf0, xf1, xf2, xf3⟩ := frees4 (X2.out)
    go_upto_region 8 with (fail)
    have X3 : Hid ((v2.setCell ⟨xb, 2, none⟩ (.int .u8 f1.toNat)).heap[xb]? = some (.cells #[.int .i64 v, .int .u8 rv.toNat, .int .u8 f1.toNat, .slice a n cap] 26 (0, 0))) := Lib.hid (setCell_at X2.out)
    replace K : Hid (Below w.heap.size w (v2.setCell ⟨xb, 2, none⟩ (.int .u8 f1.toNat))) := Lib.hid (Below.setCell (p := ⟨xb, 2, none⟩) K.out hxw _)
    replace G : Hid ((v2.setCell ⟨xb, 2, none⟩ (.int .u8 f1.toNat)).heap[gb]? = some (.cells #[.int .i64 0, .int .i64 0] 31 (0, 0))) := Lib.hid ((heap_set_other _ (Ne.symm hgx)).trans G.out)
    clear x0 x1 x2 x3 xf0 xf1 xf2 xf3 X2
    generalize v2.setCell ⟨xb, 2, none⟩ (.int .u8 f1.toNat) = v3 at *
    obtain ⟨x0, x1, x2, x3⟩ := cells4 (X3.out)
    go_upto_region 9 with (go_at_call 15; (with_reducible refine (PR1.out _ (hs.out _ K.out)).mono ?_); rintro e w5 ⟨rfl, hb5⟩; replace X3 := Lib.hid (block_below X3.out (hb5)); replace G := Lib.hid (block_below G.out (hb5)); replace K := Lib.hid (nextB K.out (hb5)); clear hb5)
    clear x0 x1 x2 x3
    have F := Lib.hid (at_a0 w5 #[.int .i64 0, .int .i64 0] 31)
    have hB := ((Below.refl w5.heap.size w5).alloc (Nat.le_refl _) (.cells #[.int .i64 0, .int .i64 0] 31))
    replace G := Lib.hid (block_below G.out hB)
    replace K := Lib.hid (nextB K.out hB)
    clear hB X3
    generalize w5.alloc (.cells #[.int .i64 0, .int .i64 0] 31) = v4 at *
    generalize w5.heap.size = fb at *
    obtain ⟨g0, g1⟩ := cells2 (G.out)
    obtain ⟨f0, f1⟩ := cells2 (F.out)
    go_upto_region 11 with (go_at_call 16; (with_reducible refine (BD.out _).mono ?_); rintro e w6 ⟨rfl, hb6⟩; replace G := Lib.hid (block_below G.out (hb6)); replace F := Lib.hid (block_below F.out (hb6)); replace K := Lib.hid (nextB K.out (hb6)); clear hb6; obtain ⟨h0, h1⟩ := cells2 (G.out); obtain ⟨k0, k1⟩ := cells2 (F.out))
    clear g0 g1 f0 f1
    go_upto_region 12 with (go_at_call 17; (with_reducible refine (PA.out _).mono ?_); rintro e w7 ⟨a2, cap2, rfl, hv, hb7⟩; replace K := Lib.hid (nextB K.out (hb7)); clear hb7; have V0 := Lib.hid (tgo_recs_atv hv); clear hv)
    have Y := Lib.hid (at_a1 w7 #[.int .i64 v, .int .u8 rv.toNat, .int .u8 f0.toNat, .slice a2 n cap2] 26 (.cells #[.int .i64 0, .int .i64 0] 31))
    have E := Lib.hid (at_a2 w7 #[.int .i64 0, .int .i64 0] 31 (.cells #[.int .i64 v, .int .u8 rv.toNat, .int .u8 f0.toNat, .slice a2 n cap2] 26))
    have hB := (((Below.refl w7.heap.size w7).alloc (Nat.le_refl _) (.cells #[.int .i64 v, .int .u8 rv.toNat, .int .u8 f0.toNat, .slice a2 n cap2] 26)).alloc (by simp) (.cells #[.int .i64 0, .int .i64 0] 31))
    have hyw : w.heap.size ≤ w7.heap.size := K.out.size
    have K7 := Lib.hid hB
    replace K := Lib.hid (nextB K.out hB)
    clear hB
    generalize (w7.alloc (.cells #[.int .i64 v, .int .u8 rv.toNat, .int .u8 f0.toNat, .slice a2 n cap2] 26)).alloc (.cells #[.int .i64 0, .int .i64 0] 31) = v5 at *
    obtain ⟨eb, heb⟩ : ∃ eb, eb = w7.heap.size + 1 := ⟨_, rfl⟩
    rw [← heb]
    rw [← heb] at E
    clear heb
    have hye : w7.heap.size < v5.heap.size := (Array.getElem?_eq_some_iff.1 Y.out).1
    go_upto_region 13 with (go_at_call 17; (with_reducible refine (PB.out _).mono ?_); rintro e w8 ⟨a3, cap3, rfl, hv, hb8⟩; replace K7 := Lib.hid (nextB K7.out hb8); replace Y := Lib.hid (block_below Y.out (hb8)); replace E := Lib.hid (block_below E.out (hb8)); replace K := Lib.hid (nextB K.out (hb8)); clear hb8; have VU := Lib.hid hv; clear hv)
    have Z := Lib.hid (at_a1 w8 #[.int .i64 v, .int .u8 rv.toNat, .int .u8 f1.toNat, .slice a3 n cap3] 26 (.cells #[.int .i64 0, .int .i64 0] 31))
    have D := Lib.hid (at_a2 w8 #[.int .i64 0, .int .i64 0] 31 (.cells #[.int .i64 v, .int .u8 rv.toNat, .int .u8 f1.toNat, .slice a3 n cap3] 26))
    have hB := (((Below.refl w8.heap.size w8).alloc (Nat.le_refl _) (.cells #[.int .i64 v, .int .u8 rv.toNat, .int .u8 f1.toNat, .slice a3 n cap3] 26)).alloc (by simp) (.cells #[.int .i64 0, .int .i64 0] 31))
    have hyz : w7.heap.size < w8.heap.size := (Array.getElem?_eq_some_iff.1 Y.out).1
    replace K7 := Lib.hid (nextB K7.out hB)
    replace VU := Lib.hid (VU.out.below hB)
    replace Y := Lib.hid (block_below Y.out hB)
    replace E := Lib.hid (block_below E.out hB)
    replace K := Lib.hid (nextB K.out hB)
    clear hB
    generalize (w8.alloc (.cells #[.int .i64 v, .int .u8 rv.toNat, .int .u8 f1.toNat, .slice a3 n cap3] 26)).alloc (.cells #[.int .i64 0, .int .i64 0] 31) = v6 at *
    obtain ⟨db, hdb⟩ : ∃ db, db = w8.heap.size + 1 := ⟨_, rfl⟩
    rw [← hdb]
    rw [← hdb] at D
    clear hdb
    generalize w8.heap.size = zb at *
    have KK : Hid (Below v6.heap.size v6 v6.drew) := Lib.hid (Below.refl v6.heap.size v6).drew
    have cc : v6.cell? ⟨eb, 0, none⟩ = some (.int .i64 0) ∧ v6.cell? ⟨eb, 1, none⟩ = some (.int .i64 0) ∧ v6.cell? ⟨db, 0, none⟩ = some (.int .i64 0) ∧ v6.cell? ⟨db, 1, none⟩ = some (.int .i64 0) := ⟨cell_at (j := 0) (E.out), cell_at (j := 1) (E.out), cell_at (j := 0) (D.out), cell_at (j := 1) (D.out)⟩
    have ccd : (v6.drew).cell? ⟨eb, 0, none⟩ = some (.int .i64 0) ∧ (v6.drew).cell? ⟨eb, 1, none⟩ = some (.int .i64 0) ∧ (v6.drew).cell? ⟨db, 0, none⟩ = some (.int .i64 0) ∧ (v6.drew).cell? ⟨db, 1, none⟩ = some (.int .i64 0) := cc
    first | (go_region_held3 (fun w' => w'.cell? ⟨eb, 0, none⟩ = some (.int .i64 0) ∧ w'.cell? ⟨eb, 1, none⟩ = some (.int .i64 0) ∧ w'.cell? ⟨db, 0, none⟩ = some (.int .i64 0) ∧ w'.cell? ⟨db, 1, none⟩ = some (.int .i64 0)) (first | with_reducible exact ccd | with_reducible exact xx | fail)
      (first | (go_at_call 16; (with_reducible refine (BD.out _).mono ?_); rintro e wq ⟨rfl, hbq⟩; replace KK := Lib.hid (nextB KK.out hbq); have xx : wq.cell? ⟨eb, 0, none⟩ = some (.int .i64 0) ∧ wq.cell? ⟨eb, 1, none⟩ = some (.int .i64 0) ∧ wq.cell? ⟨db, 0, none⟩ = some (.int .i64 0) ∧ wq.cell? ⟨db, 1, none⟩ = some (.int .i64 0) := ⟨cell_at (j := 0) (block_below E.out KK.out), cell_at (j := 1) (block_below E.out KK.out), cell_at (j := 0) (block_below D.out KK.out), cell_at (j := 1) (block_below D.out KK.out)⟩; clear hbq) | (go_at_call 18; (with_reducible refine (PT.out _).mono ?_); rintro e wq ⟨rfl, hbq⟩; replace KK := Lib.hid (nextB KK.out hbq); have xx : wq.cell? ⟨eb, 0, none⟩ = some (.int .i64 0) ∧ wq.cell? ⟨eb, 1, none⟩ = some (.int .i64 0) ∧ wq.cell? ⟨db, 0, none⟩ = some (.int .i64 0) ∧ wq.cell? ⟨db, 1, none⟩ = some (.int .i64 0) := ⟨cell_at (j := 0) (block_below E.out KK.out), cell_at (j := 1) (block_below E.out KK.out), cell_at (j := 0) (block_below D.out KK.out), cell_at (j := 1) (block_below D.out KK.out)⟩; clear hbq))) | fail
    replace Y := Lib.hid (block_below Y.out KK.out)
    replace Z := Lib.hid (block_below Z.out KK.out)
    replace VU := Lib.hid (VU.out.below KK.out)
    replace K7 := Lib.hid (nextB K7.out KK.out)
    replace K := Lib.hid (nextB K.out KK.out)
    clear KK cc ccd xx E D
    obtain ⟨y0, y1, y2, y3⟩ := cells4 (Y.out); obtain ⟨yf0, yf1, yf2, yf3⟩ := frees4 (Y.out)
    go_upto_region 16 with (fail)
    have hne : zb ≠ w7.heap.size := by omega
    have Y2 : Hid ((wq.setCell ⟨w7.heap.size, 2, none⟩ (.int .u8 f1.toNat)).heap[w7.heap.size]? = some (.cells #[.int .i64 v, .int .u8 rv.toNat, .int .u8 f1.toNat, .slice a2 n cap2] 26 (0, 0))) := Lib.hid (setCell_at Y.out)
    have Z2 : Hid ((wq.setCell ⟨w7.heap.size, 2, none⟩ (.int .u8 f1.toNat)).heap[zb]? = some (.cells #[.int .i64 v, .int .u8 rv.toNat, .int .u8 f1.toNat, .slice a3 n cap3] 26 (0, 0))) := Lib.hid ((heap_set_other _ hne).trans Z.out)
    replace K : Hid (Below w.heap.size w (wq.setCell ⟨w7.heap.size, 2, none⟩ (.int .u8 f1.toNat))) := Lib.hid (Below.setCell (p := ⟨w7.heap.size, 2, none⟩) K.out hyw _)
    have V2 : Hid (RecsAt (wq.setCell ⟨w7.heap.size, 2, none⟩ (.int .u8 f1.toNat)) a2 n 6 (gs.map frR)) := Lib.hid (V0.out.below (Below.setCell (p := ⟨w7.heap.size, 2, none⟩) K7.out (Nat.le_refl _) _))
    have VU2 : Hid (RecsAt (wq.setCell ⟨w7.heap.size, 2, none⟩ (.int .u8 f1.toNat)) a3 n 6 (gs.map frR)) := Lib.hid (tgo_recs_atv (VU.out.onlyT (Only.set (b := w7.heap.size) (j := 2) (.int .u8 f1.toNat)) hye))
    clear y0 y1 y2 y3 yf0 yf1 yf2 yf3
    generalize wq.setCell ⟨w7.heap.size, 2, none⟩ (.int .u8 f1.toNat) = v7 at *
    have KK : Hid (Below v7.heap.size v7 v7.drew) := Lib.hid (Below.refl v7.heap.size v7).drew
    have cc : v7.cell? ⟨w7.heap.size, 0, none⟩ = some (.int .i64 v) ∧ v7.cell? ⟨w7.heap.size, 1, none⟩ = some (.int .u8 rv.toNat) ∧ v7.cell? ⟨w7.heap.size, 2, none⟩ = some (.int .u8 f1.toNat) ∧ v7.cell? ⟨w7.heap.size, 3, none⟩ = some (.slice a2 n cap2) ∧ v7.cell? ⟨zb, 0, none⟩ = some (.int .i64 v) ∧ v7.cell? ⟨zb, 1, none⟩ = some (.int .u8 rv.toNat) ∧ v7.cell? ⟨zb, 2, none⟩ = some (.int .u8 f1.toNat) ∧ v7.cell? ⟨zb, 3, none⟩ = some (.slice a3 n cap3) := ⟨cell_at (j := 0) (Y2.out), cell_at (j := 1) (Y2.out), cell_at (j := 2) (Y2.out), cell_at (j := 3) (Y2.out), cell_at (j := 0) (Z2.out), cell_at (j := 1) (Z2.out), cell_at (j := 2) (Z2.out), cell_at (j := 3) (Z2.out)⟩
    have ccd : (v7.drew).cell? ⟨w7.heap.size, 0, none⟩ = some (.int .i64 v) ∧ (v7.drew).cell? ⟨w7.heap.size, 1, none⟩ = some (.int .u8 rv.toNat) ∧ (v7.drew).cell? ⟨w7.heap.size, 2, none⟩ = some (.int .u8 f1.toNat) ∧ (v7.drew).cell? ⟨w7.heap.size, 3, none⟩ = some (.slice a2 n cap2) ∧ (v7.drew).cell? ⟨zb, 0, none⟩ = some (.int .i64 v) ∧ (v7.drew).cell? ⟨zb, 1, none⟩ = some (.int .u8 rv.toNat) ∧ (v7.drew).cell? ⟨zb, 2, none⟩ = some (.int .u8 f1.toNat) ∧ (v7.drew).cell? ⟨zb, 3, none⟩ = some (.slice a3 n cap3) := cc
    first | (go_region_held3 (fun w' => w'.cell? ⟨w7.heap.size, 0, none⟩ = some (.int .i64 v) ∧ w'.cell? ⟨w7.heap.size, 1, none⟩ = some (.int .u8 rv.toNat) ∧ w'.cell? ⟨w7.heap.size, 2, none⟩ = some (.int .u8 f1.toNat) ∧ w'.cell? ⟨w7.heap.size, 3, none⟩ = some (.slice a2 n cap2) ∧ w'.cell? ⟨zb, 0, none⟩ = some (.int .i64 v) ∧ w'.cell? ⟨zb, 1, none⟩ = some (.int .u8 rv.toNat) ∧ w'.cell? ⟨zb, 2, none⟩ = some (.int .u8 f1.toNat) ∧ w'.cell? ⟨zb, 3, none⟩ = some (.slice a3 n cap3)) (first | with_reducible exact ccd | with_reducible exact xx | fail)
      (first | (go_at_call 20; (with_reducible refine (tof_any v rv f1 a2 n cap2 gs _ (Lib.hid (V2.out.below KK.out)) hn).mono ?_); rintro e wq ⟨oa, oc, rfl, ho, hbq⟩; (try replace HO1 := Lib.hid (HO1.out.below hbq)); (try replace HO2 := Lib.hid (HO2.out.below hbq)); replace KK := Lib.hid (nextB KK.out hbq); have xx : wq.cell? ⟨w7.heap.size, 0, none⟩ = some (.int .i64 v) ∧ wq.cell? ⟨w7.heap.size, 1, none⟩ = some (.int .u8 rv.toNat) ∧ wq.cell? ⟨w7.heap.size, 2, none⟩ = some (.int .u8 f1.toNat) ∧ wq.cell? ⟨w7.heap.size, 3, none⟩ = some (.slice a2 n cap2) ∧ wq.cell? ⟨zb, 0, none⟩ = some (.int .i64 v) ∧ wq.cell? ⟨zb, 1, none⟩ = some (.int .u8 rv.toNat) ∧ wq.cell? ⟨zb, 2, none⟩ = some (.int .u8 f1.toNat) ∧ wq.cell? ⟨zb, 3, none⟩ = some (.slice a3 n cap3) := ⟨cell_at (j := 0) (block_below Y2.out KK.out), cell_at (j := 1) (block_below Y2.out KK.out), cell_at (j := 2) (block_below Y2.out KK.out), cell_at (j := 3) (block_below Y2.out KK.out), cell_at (j := 0) (block_below Z2.out KK.out), cell_at (j := 1) (block_below Z2.out KK.out), cell_at (j := 2) (block_below Z2.out KK.out), cell_at (j := 3) (block_below Z2.out KK.out)⟩; clear hbq; have HO1 := Lib.hid ho; clear ho) | (go_at_call 20; (with_reducible refine (tof_any v rv f1 a3 n cap3 gs _ (Lib.hid (VU2.out.below KK.out)) hn).mono ?_); rintro e wq ⟨ob, od, rfl, ho, hbq⟩; (try replace HO1 := Lib.hid (HO1.out.below hbq)); (try replace HO2 := Lib.hid (HO2.out.below hbq)); replace KK := Lib.hid (nextB KK.out hbq); have xx : wq.cell? ⟨w7.heap.size, 0, none⟩ = some (.int .i64 v) ∧ wq.cell? ⟨w7.heap.size, 1, none⟩ = some (.int .u8 rv.toNat) ∧ wq.cell? ⟨w7.heap.size, 2, none⟩ = some (.int .u8 f1.toNat) ∧ wq.cell? ⟨w7.heap.size, 3, none⟩ = some (.slice a2 n cap2) ∧ wq.cell? ⟨zb, 0, none⟩ = some (.int .i64 v) ∧ wq.cell? ⟨zb, 1, none⟩ = some (.int .u8 rv.toNat) ∧ wq.cell? ⟨zb, 2, none⟩ = some (.int .u8 f1.toNat) ∧ wq.cell? ⟨zb, 3, none⟩ = some (.slice a3 n cap3) := ⟨cell_at (j := 0) (block_below Y2.out KK.out), cell_at (j := 1) (block_below Y2.out KK.out), cell_at (j := 2) (block_below Y2.out KK.out), cell_at (j := 3) (block_below Y2.out KK.out), cell_at (j := 0) (block_below Z2.out KK.out), cell_at (j := 1) (block_below Z2.out KK.out), cell_at (j := 2) (block_below Z2.out KK.out), cell_at (j := 3) (block_below Z2.out KK.out)⟩; clear hbq; have HO2 := Lib.hid ho; clear ho) | (go_at_call 19; (with_reducible refine (tsame_yes v rv.toNat f1.toNat oa ob n oc od gs gs true _ HO1 HO2 hn (Lib.hid rfl)).mono ?_); rintro e wq ⟨rfl, hbq⟩; (try replace HO1 := Lib.hid (HO1.out.below hbq)); (try replace HO2 := Lib.hid (HO2.out.below hbq)); replace KK := Lib.hid (nextB KK.out hbq); have xx : wq.cell? ⟨w7.heap.size, 0, none⟩ = some (.int .i64 v) ∧ wq.cell? ⟨w7.heap.size, 1, none⟩ = some (.int .u8 rv.toNat) ∧ wq.cell? ⟨w7.heap.size, 2, none⟩ = some (.int .u8 f1.toNat) ∧ wq.cell? ⟨w7.heap.size, 3, none⟩ = some (.slice a2 n cap2) ∧ wq.cell? ⟨zb, 0, none⟩ = some (.int .i64 v) ∧ wq.cell? ⟨zb, 1, none⟩ = some (.int .u8 rv.toNat) ∧ wq.cell? ⟨zb, 2, none⟩ = some (.int .u8 f1.toNat) ∧ wq.cell? ⟨zb, 3, none⟩ = some (.slice a3 n cap3) := ⟨cell_at (j := 0) (block_below Y2.out KK.out), cell_at (j := 1) (block_below Y2.out KK.out), cell_at (j := 2) (block_below Y2.out KK.out), cell_at (j := 3) (block_below Y2.out KK.out), cell_at (j := 0) (block_below Z2.out KK.out), cell_at (j := 1) (block_below Z2.out KK.out), cell_at (j := 2) (block_below Z2.out KK.out), cell_at (j := 3) (block_below Z2.out KK.out)⟩; clear hbq))) | fail
    all_goals (go_wp2; go_ret; exact ⟨rfl, nextB K.out KK.out⟩))
end Go.Proofs.Ytmnmonmbdgedbaa

namespace Go.Proofs.Ytmnmonmbdgedbaa
open Go.RowKit
set_option linter.unusedVariables false
set_option linter.unusedSimpArgs false

theorem plain_len_le (v : Int) (f : Fr) (h4 : f.id.length ≤ 4) (hs : spreadB v f.fm = false) : (printF v f).length ≤ f.bo.length + 15 := by
  have h2 := data_len v f
  have h3 := sizeL_len v (lengthF v f)
  have h1 : lengthF v f ≤ f.bo.length + 5 := by
    unfold lengthF
    rw [hs]
    simp only [Bool.false_eq_true, if_false]
    split <;> split <;> omega
  rw [printF_eq]
  simp only [List.length_append]
  have h5 : (flagL v f.st f.fm).length ≤ 2 := by unfold flagL; split <;> simp [bigL_len]
  split at h3 <;> omega
theorem bodyL_plain_le (v : Int) (hv : v ≠ 4) (k : Nat) : ∀ (fs : List Fr), (∀ f ∈ fs, checkF v f = 0 ∧ f.bo.length ≤ k) → (bodyL v fs).length ≤ (k + 15) * fs.length
  | [], _ => by simp [bodyL]
  | f :: fs, h => by
    have h1 := bodyL_plain_le v hv k fs (fun x hx => h x (List.mem_cons_of_mem _ hx))
    obtain ⟨h2, h3⟩ := h f List.mem_cons_self
    have h4 := plain_len_le v f (named_pos (checkF_ok h2).1).2.1 (by unfold spreadB; rw [if_neg hv])
    have hb : bodyL v (f :: fs) = printF v f ++ bodyL v fs := by simp [bodyL]
    rw [hb, List.length_append, List.length_cons, Nat.mul_succ]
    omega
theorem light_bodyT {t : Tg} (hl : lightT t.fs = true) (hc : (checkT t).1 = 0) : (bodyT t.v t.fl t.fs).length ≤ 18900 ∧ (bodyL t.v t.fs).length ≤ 18900 := by
  obtain ⟨_, _, hf, _⟩ := checkT_ok hc
  have hlp := light_parts hl
  have h1 := bodyL_le t.v 300 t.fs (fun f hx => ⟨(badIn_ok (hf f hx)).1, (hlp.2 f hx).2⟩)
  have h3 : (2 * 300 + 15) * t.fs.length ≤ (2 * 300 + 15) * 30 := Nat.mul_le_mul_left _ hlp.1
  refine ⟨?_, by omega⟩
  by_cases hw : wholeB t.v t.fl = true
  · have hv : t.v ≠ 4 := by
      intro e
      unfold wholeB at hw
      rw [if_pos e] at hw
      exact absurd hw (by decide)
    have h2 := bodyL_plain_le t.v hv 300 t.fs (fun f hx => ⟨(badIn_ok (hf f hx)).1, (hlp.2 f hx).2⟩)
    have h4 : (300 + 15) * t.fs.length ≤ (300 + 15) * 30 := Nat.mul_le_mul_left _ hlp.1
    have h5 := bodyT_le t.v t.fl t.fs
    omega
  · unfold bodyT
    rw [if_neg hw]
    omega
theorem printT_len2 (t : Tg) : (printT t).length ≤ (bodyT t.v t.fl t.fs).length + 20 := by
  unfold printT tailT
  simp only [List.length_append, headL_len]
  split <;> simp [headL_len] <;> omega
theorem drop_ten (x0 x1 x2 x3 x4 x5 x6 x7 x8 x9 : UInt8) (l : List UInt8) : List.take ((x0 :: x1 :: x2 :: x3 :: x4 :: x5 :: x6 :: x7 :: x8 :: x9 :: l).length - 10) (List.drop 10 (x0 :: x1 :: x2 :: x3 :: x4 :: x5 :: x6 :: x7 :: x8 :: x9 :: l)) = l := by
  simp
set_option maxHeartbeats 1000000 in
theorem walk_TopSync (w : World) (tv : Value) (ht : TagIn w tv) (sd : List UInt8) (hsd0 : sd.length ≤ maxLen) : Calls Try.prog 3 #[tv, .string ⟨sd.toArray⟩] w fun e w' => e = .returned (.bool true) ∧ Below w.heap.size w w' := by
  obtain ⟨⟨v, rv, fl, fs⟩, a, n, cap, rfl, hr, hn, hp⟩ := ht
  have hnl : fs.length = n := by simpa using hr.1
  have hs := Lib.hid (fun w' (h : Below w.heap.size w w') => hr.below h)
  cases hl : lightT fs with
  | false =>
    exact tsync_over v rv fl a n cap sd false (HS := fun w' => RecsAt w' a n 6 (fs.map frR)) w hs (Lib.hid fun w' h => by have := light_in v rv fl a n cap fs w' (Lib.hid h) hn; rw [hl] at this; exact this) (.inl rfl)
  | true =>
    have LG : Hid (∀ w', RecsAt w' a n 6 (fs.map frR) → Calls Try.prog 14 #[.agg #[.int .i64 v, .int .u8 rv.toNat, .int .u8 fl.toNat, .slice a n cap]] w' (SaysB true w')) := Lib.hid fun w' h => by have := light_in v rv fl a n cap fs w' (Lib.hid h) hn; rw [hl] at this; exact this
    by_cases hsd : (200 : Int) < sd.length
    · exact tsync_over v rv fl a n cap sd true (HS := fun w' => RecsAt w' a n 6 (fs.map frR)) w hs LG (.inr (.inl ⟨rfl, hsd⟩))
    by_cases hv : v = 2 ∨ v = 3
    rotate_left
    · exact tsync_over v rv fl a n cap sd true (HS := fun w' => RecsAt w' a n 6 (fs.map frR)) w hs LG (.inr (.inr ⟨rfl, hsd, by simp; omega, by simp; omega⟩))
    obtain ⟨hn30, hsm⟩ := light_parts hl
    have hck := checkT_spread v rv fl fs hv
    have hid : ∀ f ∈ fs, f.id.length ≤ 1000000 ∧ f.bo.length ≤ 1000000 := fun f hf => by have := hsm f hf; omega
    obtain ⟨t0, t1, _, _⟩ := fl_spread fl
    have hl0 : lightT (⟨v, rv, fl &&& 127, fs⟩ : Tg).fs = true := hl
    have hl1 : lightT (⟨v, rv, (fl &&& 127) ||| 128, fs⟩ : Tg).fs = true := hl
    have PR0 := fun w' (h : RecsAt w' a n 6 (fs.map frR)) => tprint_any ⟨v, rv, fl &&& 127, fs⟩ a n cap w' h (by omega) hid (fun hc => Nat.le_trans (light_bodyT hl0 hc).2 (by decide))
    have PR1 := fun w' (h : RecsAt w' a n 6 (fs.map frR)) => tprint_any ⟨v, rv, (fl &&& 127) ||| 128, fs⟩ a n cap w' h (by omega) hid (fun hc => Nat.le_trans (light_bodyT hl1 hc).2 (by decide))
    by_cases hc : (checkT ⟨v, rv, fl &&& 127, fs⟩).1 = 0
    rotate_left
    · have hc1 : ¬ (checkT ⟨v, rv, (fl &&& 127) ||| 128, fs⟩).1 = 0 := by rw [← hck]; exact hc
      rw [if_neg hc] at PR0
      rw [if_neg hc1, ← hck] at PR1
      exact tsync_bad v rv fl (fl &&& 127) ((fl &&& 127) ||| 128) a n cap sd (checkT ⟨v, rv, fl &&& 127, fs⟩).1 (checkT ⟨v, rv, fl &&& 127, fs⟩).2 (HS := fun w' => RecsAt w' a n 6 (fs.map frR)) w hs hv hsd (andnot128 fl) (or128 _) LG hc (Lib.hid PR0) (Lib.hid PR1)
    have hc1 : (checkT ⟨v, rv, (fl &&& 127) ||| 128, fs⟩).1 = 0 := by rw [← hck]; exact hc
    obtain ⟨e0, hb0, hf0, _⟩ := checkT_ok hc
    obtain ⟨e1, hb1, hf1, _⟩ := checkT_ok hc1
    have hB0 := light_bodyT hl0 hc
    have hB1 := light_bodyT hl1 hc1
    have w0 : wholeB v (fl &&& 127) = false := by unfold wholeB; rw [if_neg (by omega)]; exact t0
    have w1 : wholeB v ((fl &&& 127) ||| 128) = true := by unfold wholeB; rw [if_neg (by omega)]; exact t1
    have ft : ∀ x, footB v x = false := fun x => by unfold footB; rw [if_neg (by omega)]
    have b0 : bodyT v (fl &&& 127) fs = bodyL v fs := by unfold bodyT; rw [w0]; rfl
    have b1 : bodyT v ((fl &&& 127) ||| 128) fs = sndPut (bodyL v fs) := by unfold bodyT; rw [w1]; rfl
    have hB0' : (bodyT v (fl &&& 127) fs).length ≤ 18900 := hB0.1
    have hB1' : (bodyT v ((fl &&& 127) ||| 128) fs).length ≤ 18900 := hB1.1
    obtain ⟨q, a1, a2, a3, a4, _, _, _, _, _, f0⟩ := printT_form ⟨v, rv, fl &&& 127, fs⟩ hb0 (show (bodyT v (fl &&& 127) fs).length ≤ _ by omega)
    obtain ⟨q', c1, c2, c3, c4, _, _, _, _, _, f1⟩ := printT_form ⟨v, rv, (fl &&& 127) ||| 128, fs⟩ hb1 (show (bodyT v ((fl &&& 127) ||| 128) fs).length ≤ _ by omega)
    have L0 := printT_len2 ⟨v, rv, fl &&& 127, fs⟩
    have L1 := printT_len2 ⟨v, rv, (fl &&& 127) ||| 128, fs⟩
    have L0' : (printT ⟨v, rv, fl &&& 127, fs⟩).length ≤ 18920 := Nat.le_trans L0 (Nat.add_le_add_right hB0' 20)
    have L1' : (printT ⟨v, rv, (fl &&& 127) ||| 128, fs⟩).length ≤ 18920 := Nat.le_trans L1 (Nat.add_le_add_right hB1' 20)
    rw [if_pos hc, e0] at PR0
    rw [if_pos hc1, e1] at PR1
    have PA := fun w => (tparse_any (printT ⟨v, rv, fl &&& 127, fs⟩ ++ sd) w (by rw [List.length_append]; omega))
    have PB := fun w => (tparse_any (printT ⟨v, rv, (fl &&& 127) ||| 128, fs⟩ ++ sd) w (by rw [List.length_append]; omega))
    have hbo : ∀ f ∈ fs, f.bo.length ≤ 8000000 := fun f hf => by have := hsm f hf; omega
    rw [prT_print ⟨v, rv, fl &&& 127, fs⟩ sd hc hbo (Nat.le_trans hB0.2 (by decide))] at PA
    rw [prT_print ⟨v, rv, (fl &&& 127) ||| 128, fs⟩ sd hc1 hbo (Nat.le_trans hB1.2 (by decide))] at PB
    have hpl : (placeF v 10 fs).length = n := by rw [placeF_len]; exact hnl
    have PA2 := fun w => (PA w).mono (fun e w' => tparS_of ⟨v, rv, fl &&& 127, placeF v 10 fs⟩ sd n hpl w w' e)
    have PB2 := fun w => (PB w).mono (fun e w' => tparS_of ⟨v, rv, (fl &&& 127) ||| 128, placeF v 10 fs⟩ sd n hpl w w' e)
    have PT := fun w => put_any (bodyL v fs) w (by have := hB0.2; exact Nat.le_trans this (by decide))
    have F0 : printT ⟨v, rv, fl &&& 127, fs⟩ = 73 :: 68 :: 51 :: q :: rv :: (fl &&& 127) :: a1 :: a2 :: a3 :: a4 :: bodyL v fs := by
      rw [f0, ft]; simp only [Bool.false_eq_true, if_false, List.append_nil]; rw [b0]
    have F1 : printT ⟨v, rv, (fl &&& 127) ||| 128, fs⟩ = 73 :: 68 :: 51 :: q' :: rv :: ((fl &&& 127) ||| 128) :: c1 :: c2 :: c3 :: c4 :: sndPut (bodyL v fs) := by
      rw [f1, ft]; simp only [Bool.false_eq_true, if_false, List.append_nil]; rw [b1]
    have m0 : (10 : Int) ≤ (printT ⟨v, rv, fl &&& 127, fs⟩).length := by rw [F0]; simp only [List.length_cons]; omega
    have m1 : (10 : Int) ≤ (printT ⟨v, rv, (fl &&& 127) ||| 128, fs⟩).length := by rw [F1]; simp only [List.length_cons]; omega
    have H0 : List.take ((printT ⟨v, rv, fl &&& 127, fs⟩).length - 10) (List.drop 10 (printT ⟨v, rv, fl &&& 127, fs⟩)) = bodyL v fs := by rw [F0]; exact drop_ten _ _ _ _ _ _ _ _ _ _ _
    have H1 : List.take ((printT ⟨v, rv, (fl &&& 127) ||| 128, fs⟩).length - 10) (List.drop 10 (printT ⟨v, rv, (fl &&& 127) ||| 128, fs⟩)) = sndPut (bodyL v fs) := by rw [F1]; exact drop_ten _ _ _ _ _ _ _ _ _ _ _
    exact tsync_in v rv fl (fl &&& 127) ((fl &&& 127) ||| 128) a n cap sd _ _ (bodyL v fs) (placeF v 10 fs) (HS := fun w' => RecsAt w' a n 6 (fs.map frR)) w hs hv hsd (andnot128 fl) (or128 _) LG (by omega) (Lib.hid PR0) (Lib.hid PR1) (Lib.hid PA2) (Lib.hid PB2) (Lib.hid PT) m0 m1 H0 H1 (by omega) (by omega)
end Go.Proofs.Ytmnmonmbdgedbaa
