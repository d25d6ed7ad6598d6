/- Tails that come in; the walks of TailSplits and TailPrints. -/
import Derived.Test.YtlgkbkbghheokaaTail11
import Derived.OpenShut
import Derived.Deep.Slices
namespace Go.Proofs.Ytlgkbkbghheokaa
open Go.RowKit Go.ChangeShapes Go.WideShapes Go.Deep
set_option linter.unusedVariables false

section
variable {H : Type} {enc : TypeId × Value → H} {w : World} {base : Nat} {spare : Nat → Bool} {held : Bool} {fuel : Nat} {cs : List Value} {x : DataW H × List MemPlace}
theorem wf_u8 {n : Int} (h : (Lit.int .u8 n).wf = true) : ∃ c : UInt8, n = c.toNat := by
  have h2 : 0 ≤ n ∧ n < 256 := by
    simp [Lit.wf, IntKind.bits, IntKind.signed, IntKind.min, IntKind.max] at h
    omega
  exact ⟨UInt8.ofNat n.toNat, by rw [UInt8.toNat_ofNat']; omega⟩
theorem str_cell {c : Value} {y : DataW H × List MemPlace} (h : DataW.trod enc Try.prog w base spare held fuel 9 [c] = some y) : ∃ l : List UInt8, c = .string ⟨l.toArray⟩ ∧ l.length ≤ maxLen := by
  obtain ⟨s, e, _, k⟩ := DataW.trod_string Try.underlying9 h
  obtain ⟨l, rfl⟩ := bytes_eta s
  exact ⟨l, by simpa using e, by simpa [ByteArray.size] using k⟩
theorem u8_cell {c : Value} {y : DataW H × List MemPlace} (h : DataW.trod enc Try.prog w base spare held fuel 5 [c] = some y) : ∃ l : UInt8, c = .int .u8 l.toNat := by
  obtain ⟨n, e, _, k⟩ := DataW.trod_int Try.underlying5 h
  obtain ⟨l, rfl⟩ := wf_u8 k
  exact ⟨l, by simpa using e⟩
set_option maxRecDepth 100000 in
theorem tail_cells (hlen : cs.length = 7) (h : DataW.trod enc Try.prog w base spare held fuel 25 cs = some x) : ∃ t : Tl, cs = tlR t ∧ t.t0.length ≤ maxLen ∧ t.t1.length ≤ maxLen ∧ t.t2.length ≤ maxLen ∧ t.t3.length ≤ maxLen ∧ t.t4.length ≤ maxLen := by
  match cs, hlen with
  | [c0, c1, c2, c3, c4, c5, c6], _ =>
    obtain ⟨xs, n, rfl, hx, hl, hxl, hfs⟩ := DataW.trod_struct Try.underlying25 h
    have hxl3 : xs.length = 3 := hxl
    match xs, hxl3 with
    | [y0, y1, y2], _ =>
      have h0 : DataW.trod enc Try.prog w base spare held n 23 [c0, c1, c2, c3, c4] = some y0 := hfs 0 _ rfl
      have h1 : DataW.trod enc Try.prog w base spare held n 5 [c5] = some y1 := hfs 1 _ rfl
      have h2 : DataW.trod enc Try.prog w base spare held n 5 [c6] = some y2 := hfs 2 _ rfl
      obtain ⟨xs', n', rfl, hx', hl', hxl', hfs'⟩ := DataW.trod_struct Try.underlying23 h0
      have hxl5 : xs'.length = 5 := hxl'
      match xs', hxl5 with
      | [z0, z1, z2, z3, z4], _ =>
        have k0 : DataW.trod enc Try.prog w base spare held n' 9 [c0] = some z0 := hfs' 0 _ rfl
        have k1 : DataW.trod enc Try.prog w base spare held n' 9 [c1] = some z1 := hfs' 1 _ rfl
        have k2 : DataW.trod enc Try.prog w base spare held n' 9 [c2] = some z2 := hfs' 2 _ rfl
        have k3 : DataW.trod enc Try.prog w base spare held n' 9 [c3] = some z3 := hfs' 3 _ rfl
        have k4 : DataW.trod enc Try.prog w base spare held n' 9 [c4] = some z4 := hfs' 4 _ rfl
        obtain ⟨a0, rfl, g0⟩ := str_cell k0
        obtain ⟨a1, rfl, g1⟩ := str_cell k1
        obtain ⟨a2, rfl, g2⟩ := str_cell k2
        obtain ⟨a3, rfl, g3⟩ := str_cell k3
        obtain ⟨a4, rfl, g4⟩ := str_cell k4
        obtain ⟨a5, rfl⟩ := u8_cell h1
        obtain ⟨a6, rfl⟩ := u8_cell h2
        exact ⟨⟨a0, a1, a2, a3, a4, a5, a6⟩, rfl, g0, g1, g2, g3, g4⟩
end
section
variable {H : Type} {enc : TypeId × Value → H} {w : World} {base : Nat} {spare : Nat → Bool} {held : Bool} {v : Value} {d : DataW H} {p : List MemPlace} {r : Reach} {b0 : Nat}
set_option maxRecDepth 100000 in
theorem open_tail (hv : Value.okWide Try.prog w r b0 25 v) (h : DataW.Trod enc Try.prog w base spare held 25 v d p) : TailIn v := by
  obtain ⟨cs, rfl, hsz⟩ := okWide_struct Try.underlying25 hv
  have h6 : cs.size = 7 := hsz.trans (by kernel_rfl)
  obtain ⟨fuel, hf⟩ := h
  obtain ⟨t, ht, rest⟩ := tail_cells (cs := cs.toList) (by simpa using h6) (by simpa [Value.cells] using hf)
  exact ⟨t, by unfold tlV; rw [← ht], rest⟩
end
theorem walk_TailSplits (w : World) (b : List UInt8) (hb : b.length ≤ maxLen) (v : Value) (hv : TailIn v) : Calls Try.prog 5 #[.string ⟨b.toArray⟩, v] w fun e w' => e = .returned (.bool true) ∧ Below w.heap.size w w' := by
  obtain ⟨t, rfl, _⟩ := hv
  by_cases h : (1000 : Int) < b.length
  · exact tsplits_over b t w h
  by_cases hc : (tcheck t).1 = 0
  · exact tsplits_ok b t w h (tcheck_zero t hc)
  · exact tsplits_bad b t w h hc

theorem drewB {V w : World} (hb : Below V.drew.heap.size V.drew w) : Below V.heap.size V w := ⟨hb.os, hb.tape, hb.output, hb.size, hb.block⟩
theorem keep9 {V w : World} {xb fb : Nat} {t : Tl} {c q : Int} (hb : Below V.heap.size V w) (hx : xb < V.heap.size) (hf : fb < V.heap.size) (h : V.cell? ⟨xb, 0, none⟩ = some (.string ⟨t.t0.toArray⟩) ∧ V.cell? ⟨xb, 1, none⟩ = some (.string ⟨t.t1.toArray⟩) ∧ V.cell? ⟨xb, 2, none⟩ = some (.string ⟨t.t2.toArray⟩) ∧ V.cell? ⟨xb, 3, none⟩ = some (.string ⟨t.t3.toArray⟩) ∧ V.cell? ⟨xb, 4, none⟩ = some (.string ⟨t.t4.toArray⟩) ∧ V.cell? ⟨xb, 5, none⟩ = some (.int .u8 t.tr.toNat) ∧ V.cell? ⟨xb, 6, none⟩ = some (.int .u8 t.ge.toNat) ∧ V.cell? ⟨fb, 0, none⟩ = some (.int .i64 c) ∧ V.cell? ⟨fb, 1, none⟩ = some (.int .i64 q)) : w.cell? ⟨xb, 0, none⟩ = some (.string ⟨t.t0.toArray⟩) ∧ w.cell? ⟨xb, 1, none⟩ = some (.string ⟨t.t1.toArray⟩) ∧ w.cell? ⟨xb, 2, none⟩ = some (.string ⟨t.t2.toArray⟩) ∧ w.cell? ⟨xb, 3, none⟩ = some (.string ⟨t.t3.toArray⟩) ∧ w.cell? ⟨xb, 4, none⟩ = some (.string ⟨t.t4.toArray⟩) ∧ w.cell? ⟨xb, 5, none⟩ = some (.int .u8 t.tr.toNat) ∧ w.cell? ⟨xb, 6, none⟩ = some (.int .u8 t.ge.toNat) ∧ w.cell? ⟨fb, 0, none⟩ = some (.int .i64 c) ∧ w.cell? ⟨fb, 1, none⟩ = some (.int .i64 q) := by
  have e : ∀ j, w.cell? ⟨xb, j, none⟩ = V.cell? ⟨xb, j, none⟩ := fun j => hb.cell (p := ⟨xb, j, none⟩) hx
  have e2 : ∀ j, w.cell? ⟨fb, j, none⟩ = V.cell? ⟨fb, j, none⟩ := fun j => hb.cell (p := ⟨fb, j, none⟩) hf
  rw [e, e, e, e, e, e, e, e2, e2]
  exact h
def Short5 (t : Tl) : Prop := ∀ j (hj : j < 5), ((texts t)[j]'hj).length ≤ 500
set_option maxHeartbeats 4000000 in
set_option maxRecDepth 100000 in
theorem tprints_in (t : Tl) (c q : Int) (s : List UInt8) (w : World) (hcq : (c, q) = tcheck t)
    (PR : Hid (∀ w, Calls Try.prog 12 #[tlV t] w fun e w' => e = .returned (.tuple #[.string ⟨s.toArray⟩, .agg #[.int .i64 c, .int .i64 q]]) ∧ Below w.heap.size w w'))
    (hs : (¬ c = 0 ∧ s = []) ∨ (c = 0 ∧ s.length = 128 ∧ (∀ w, Calls Try.prog 15 #[.string ⟨s.toArray⟩] w (ParseSays t true w)) ∧ (∀ w, Calls Try.prog 16 #[rtV t] w fun e w' => e = .returned (.string ⟨s.toArray⟩) ∧ Below w.heap.size w w'))) :
    Calls Try.prog 3 #[tlV t] w fun e w' => e = .returned (.bool true) ∧ Below w.heap.size w w' := by
  have HS := Lib.hid hs
  have OF := Lib.hid (fun w => tof_any t w)
  have CK := Lib.hid (fun w => tcheck_any t w)
  unfold CheckSays at CK
  have RC := Lib.hid (fun w hl => rtcheck_any t w hl)
  unfold RCheckSays at RC
  rw [← hcq] at CK RC
  have HI := Lib.hid (fun j hj w => index5 t.t0 t.t1 t.t2 t.t3 t.t4 j hj w)
  have heq := run_eql_tail t
  have HEQ := Lib.hid heq
  unfold tlV tlR rtV rtR at *
  simp only at CK RC
  clear hs hcq heq
  go_enter Try.func3, Try.ntmps3
  go_wp2_with (go_at_call 10; (with_reducible refine (OF.out _).mono ?_); rintro e w1 ⟨rfl, hb1⟩; have X1 := Lib.hid (block_below (at_a0 w _ _) hb1); have K1 := Lib.hid (below_a1 hb1); clear hb1)
  have X2 := Lib.hid (block_below X1.out ((Below.refl _ w1).alloc (Nat.le_refl _) (.cells #[.string ⟨t.t0.toArray⟩, .string ⟨t.t1.toArray⟩, .string ⟨t.t2.toArray⟩, .string ⟨t.t3.toArray⟩, .string ⟨t.t4.toArray⟩, .int .i64 t.tr.toNat, .int .i64 t.ge.toNat] 28)))
  have M2 := Lib.hid (at_a0 w1 #[.string ⟨t.t0.toArray⟩, .string ⟨t.t1.toArray⟩, .string ⟨t.t2.toArray⟩, .string ⟨t.t3.toArray⟩, .string ⟨t.t4.toArray⟩, .int .i64 t.tr.toNat, .int .i64 t.ge.toNat] 28)
  have K2 := Lib.hid (K1.out.alloc K1.out.size (.cells #[.string ⟨t.t0.toArray⟩, .string ⟨t.t1.toArray⟩, .string ⟨t.t2.toArray⟩, .string ⟨t.t3.toArray⟩, .string ⟨t.t4.toArray⟩, .int .i64 t.tr.toNat, .int .i64 t.ge.toNat] 28))
  generalize w1.alloc (.cells #[.string ⟨t.t0.toArray⟩, .string ⟨t.t1.toArray⟩, .string ⟨t.t2.toArray⟩, .string ⟨t.t3.toArray⟩, .string ⟨t.t4.toArray⟩, .int .i64 t.tr.toNat, .int .i64 t.ge.toNat] 28) = V at *
  generalize w1.heap.size = mb at *
  generalize hxe : w.heap.size = xb at *
  have HX := Lib.hid hxe
  clear X1 K1 hxe
  go_loop [16] (fun i => ∃ (j : Nat), j ≤ 5 ∧ i = .int .i64 j ∧ Hid (∀ k (hk : k < 5), k < j → ((texts t)[k]'hk).length ≤ 500)) (fun i => 5 - (intOf i).toNat)
  case atStart => exact ⟨0, by omega, rfl, Lib.hid (fun k hk h => by omega)⟩
  case round =>
    obtain ⟨j, hj, rfl, HL⟩ := hrel
    by_cases hj5 : j < 5
    · have hi := HI.out j hj5 V
      have HT : Hid (((texts t)[j]'hj5).length ≤ 500 → ∀ k (hk : k < 5), k < j + 1 → ((texts t)[k]'hk).length ≤ 500) := Lib.hid fun h k hk hkj => by
        by_cases e : k = j
        · subst e; exact h
        · exact HL.out k hk (by omega)
      have ht : [t.t0, t.t1, t.t2, t.t3, t.t4][j]'hj5 = (texts t)[j]'hj5 := rfl
      rw [ht] at hi
      clear ht HL
      generalize (texts t)[j]'hj5 = x at *
      have g0 : (j : Int) < 5 := by omega
      have g1 : (0 : Int) ≤ j := by omega
      by_cases hbig : (500 : Int) < x.length
      · go_wp2_with (go_at_call 11; (with_reducible refine (awake12' _).mono ?_); rintro e w2 ⟨rfl, hb2⟩)
        go_ret
        exact ⟨rfl, by rw [HX.out]; exact K2.out.trans (hb2.mono (by have := K2.out.size; rw [HX.out] at this; exact this))⟩
      · go_wp2
        go_round
        case rel => exact ⟨j + 1, by omega, by go_num, Lib.hid (HT.out (by omega))⟩
        case measure => simp [intOf]; omega
    · have g0 : ¬ (j : Int) < 5 := by omega
      have hl5 : Hid (∀ k (hk : k < 5), ((texts t)[k]'hk).length ≤ 1000000000) := Lib.hid fun k hk => by have := HL.out k hk (by omega); omega
      have RC2 := Lib.hid (fun w => RC.out w hl5)
      have hxv := (Array.getElem?_eq_some_iff.1 X2.out).1
      have hmv := (Array.getElem?_eq_some_iff.1 M2.out).1
      have a0 := cell_at (j := 0) X2.out; have a1 := cell_at (j := 1) X2.out; have a2 := cell_at (j := 2) X2.out; have a3 := cell_at (j := 3) X2.out; have a4 := cell_at (j := 4) X2.out; have a5 := cell_at (j := 5) X2.out; have a6 := cell_at (j := 6) X2.out; simp only [List.getElem?_toArray, List.getElem?_cons_zero, List.getElem?_cons_succ] at a0 a1 a2 a3 a4 a5 a6
      clear HL hl5 RC HI
      have hks : xb ≤ V.heap.size := by omega
      go_upto_region 10 with (first | (go_at_call 12; (with_reducible refine (PR.out _).mono ?_); rintro e w2 ⟨rfl, hb2⟩; have X3 := Lib.hid (block_below X2.out hb2); have M3 := Lib.hid (block_below M2.out hb2); have K3 := Lib.hid (K2.out.trans (hb2.mono hks)); have hz2 := hb2.size; have hm2 := (Array.getElem?_eq_some_iff.1 M3.out).1; have m0 := cell_at (j := 0) M3.out; have m1 := cell_at (j := 1) M3.out; have m2 := cell_at (j := 2) M3.out; have m3 := cell_at (j := 3) M3.out; have m4 := cell_at (j := 4) M3.out; have m5 := cell_at (j := 5) M3.out; have m6 := cell_at (j := 6) M3.out; simp only [List.getElem?_toArray, List.getElem?_cons_zero, List.getElem?_cons_succ] at m0 m1 m2 m3 m4 m5 m6; clear hb2) | (go_at_call 13; (with_reducible refine (RC2.out _).mono ?_); rintro e w3 ⟨rfl, hb3⟩; have X4 := Lib.hid (block_below X3.out (below_a1 hb3)); have M4 := Lib.hid (block_below M3.out (below_a1 hb3)); have F4 := Lib.hid (block_below (at_a0 w2 _ _) hb3); have K4 := Lib.hid (K3.out.trans ((below_a1 hb3).mono (by omega))); have hz3 := (below_a1 hb3).size; clear hb3))
      have cc : w3.cell? ⟨xb, 0, none⟩ = some (.string ⟨t.t0.toArray⟩) ∧ w3.cell? ⟨xb, 1, none⟩ = some (.string ⟨t.t1.toArray⟩) ∧ w3.cell? ⟨xb, 2, none⟩ = some (.string ⟨t.t2.toArray⟩) ∧ w3.cell? ⟨xb, 3, none⟩ = some (.string ⟨t.t3.toArray⟩) ∧ w3.cell? ⟨xb, 4, none⟩ = some (.string ⟨t.t4.toArray⟩) ∧ w3.cell? ⟨xb, 5, none⟩ = some (.int .u8 t.tr.toNat) ∧ w3.cell? ⟨xb, 6, none⟩ = some (.int .u8 t.ge.toNat) ∧ w3.cell? ⟨w2.heap.size, 0, none⟩ = some (.int .i64 c) ∧ w3.cell? ⟨w2.heap.size, 1, none⟩ = some (.int .i64 q) := ⟨cell_at (j := 0) X4.out, cell_at (j := 1) X4.out, cell_at (j := 2) X4.out, cell_at (j := 3) X4.out, cell_at (j := 4) X4.out, cell_at (j := 5) X4.out, cell_at (j := 6) X4.out, cell_at (j := 0) F4.out, cell_at (j := 1) F4.out⟩
      have hx4 := (Array.getElem?_eq_some_iff.1 X4.out).1
      have hf4 := (Array.getElem?_eq_some_iff.1 F4.out).1
      generalize w2.heap.size = fb at *
      clear a0 a1 a2 a3 a4 a5 a6 m0 m1 m2 m3 m4 m5 m6 X2 M2 K2 X3 M3 K3 hxv hmv PR RC2 OF hm2
      go_region_held3 (fun w' => w'.cell? ⟨xb, 0, none⟩ = some (.string ⟨t.t0.toArray⟩) ∧ w'.cell? ⟨xb, 1, none⟩ = some (.string ⟨t.t1.toArray⟩) ∧ w'.cell? ⟨xb, 2, none⟩ = some (.string ⟨t.t2.toArray⟩) ∧ w'.cell? ⟨xb, 3, none⟩ = some (.string ⟨t.t3.toArray⟩) ∧ w'.cell? ⟨xb, 4, none⟩ = some (.string ⟨t.t4.toArray⟩) ∧ w'.cell? ⟨xb, 5, none⟩ = some (.int .u8 t.tr.toNat) ∧ w'.cell? ⟨xb, 6, none⟩ = some (.int .u8 t.ge.toNat) ∧ w'.cell? ⟨fb, 0, none⟩ = some (.int .i64 c) ∧ w'.cell? ⟨fb, 1, none⟩ = some (.int .i64 q)) (first | exact cc | exact x5 | fail)
        (first | (go_at_call 14; (with_reducible refine (CK.out _).mono ?_); rintro e w5 ⟨rfl, hb5⟩; have k5 := Lib.hid (drewB hb5); have x5 := keep9 k5.out hx4 hf4 cc; clear hb5))
      have X5 := Lib.hid (block_below X4.out k5.out)
      have M5 := Lib.hid (block_below M4.out k5.out)
      have K5 := Lib.hid (K4.out.trans (k5.out.mono (by omega)))
      have hz5 := k5.out.size
      clear cc x5 k5 X4 M4 F4 K4 CK
      rcases HS.out with ⟨hc, rfl⟩ | ⟨rfl, hlen, hpa, hrp⟩
      · have t1 : (c != 0) = true := by simpa using hc
        clear HS hc
        go_wp2_with (go_at_call 11; (with_reducible refine (awake12' _).mono ?_); rintro e w6 ⟨rfl, hb6⟩; have K6 := Lib.hid (K5.out.trans (hb6.mono (by omega))); clear hb6)
        go_ret
        exact ⟨rfl, by rw [HX.out]; exact K6.out⟩
      · have PA := Lib.hid hpa
        have RP := Lib.hid hrp
        have t1 : ((s.length : Int) == 128) = true := by rw [hlen]; rfl
        have t2 : s.length ≤ 128 := by omega
        unfold ParseSays tlV tlR at PA
        have heq := HEQ.out
        clear HS hlen hpa hrp
        go_wp2_with (first | (go_at_call 15; (with_reducible refine (PA.out _).mono ?_); rintro e w6 ⟨rfl, hb6⟩; have X6 := Lib.hid (block_below X5.out hb6); have M6 := Lib.hid (block_below M5.out hb6); have K6 := Lib.hid (K5.out.trans (hb6.mono (by omega))); have hz6 := hb6.size; clear hb6) | (go_at_call 11; (with_reducible refine (awake12' _).mono ?_); rintro e w7 ⟨rfl, hb7⟩; have X7 := Lib.hid (block_below X6.out (below_a1 hb7)); have M7 := Lib.hid (block_below M6.out (below_a1 hb7)); have Y7 := Lib.hid (block_below (at_a0 w6 _ _) hb7); have K7 := Lib.hid (K6.out.trans ((below_a1 hb7).mono (by omega))); have hz7 := (below_a1 hb7).size; have m0 := cell_at (j := 0) M7.out; have m1 := cell_at (j := 1) M7.out; have m2 := cell_at (j := 2) M7.out; have m3 := cell_at (j := 3) M7.out; have m4 := cell_at (j := 4) M7.out; have m5 := cell_at (j := 5) M7.out; have m6 := cell_at (j := 6) M7.out; simp only [List.getElem?_toArray, List.getElem?_cons_zero, List.getElem?_cons_succ] at m0 m1 m2 m3 m4 m5 m6; clear hb7) | (go_at_call 16; (with_reducible refine (RP.out _).mono ?_); rintro e w8 ⟨rfl, hb8⟩; have X8 := Lib.hid (block_below X7.out hb8); have Y8 := Lib.hid (block_below Y7.out hb8); have K8 := Lib.hid (K7.out.trans (hb8.mono (by omega))); have x0 := cell_at (j := 0) X8.out; have x1 := cell_at (j := 1) X8.out; have x2 := cell_at (j := 2) X8.out; have x3 := cell_at (j := 3) X8.out; have x4 := cell_at (j := 4) X8.out; have x5 := cell_at (j := 5) X8.out; have x6 := cell_at (j := 6) X8.out; simp only [List.getElem?_toArray, List.getElem?_cons_zero, List.getElem?_cons_succ] at x0 x1 x2 x3 x4 x5 x6; have y0 := cell_at (j := 0) Y8.out; have y1 := cell_at (j := 1) Y8.out; have y2 := cell_at (j := 2) Y8.out; have y3 := cell_at (j := 3) Y8.out; have y4 := cell_at (j := 4) Y8.out; have y5 := cell_at (j := 5) Y8.out; have y6 := cell_at (j := 6) Y8.out; simp only [List.getElem?_toArray, List.getElem?_cons_zero, List.getElem?_cons_succ] at y0 y1 y2 y3 y4 y5 y6; clear hb8))
        go_ret
        exact ⟨rfl, by rw [HX.out]; exact K8.out⟩
theorem walk_TailPrints (w : World) (v : Value) (hv : TailIn v) : Calls Try.prog 3 #[v] w fun e w' => e = .returned (.bool true) ∧ Below w.heap.size w w' := by
  obtain ⟨t, rfl, _⟩ := hv
  by_cases hc : (tcheck t).1 = 0
  · have h0 := tcheck_zero t hc
    have hf := fits_of t h0
    refine tprints_in t 0 0 (printT t) w h0.symm (Lib.hid fun w => tprint_ok t w h0) (.inr ⟨rfl, printT_len t (fun x hx => (hf x hx).2), fun w => ?_, fun w => rtprint_any t w hf⟩)
    have h := tparse_any (printT t) w
    rw [parsed_back t hf, (tail_back t hf).2] at h
    exact h
  · exact tprints_in t (tcheck t).1 (tcheck t).2 [] w rfl (Lib.hid fun w => tprint_bad t w hc) (.inl ⟨hc, rfl⟩)
end Go.Proofs.Ytlgkbkbghheokaa
