/- The walk of the statement PagePrints. -/
import Derived.Test.YtaifdkklijpjnaaPage8
namespace Go.Proofs.Ytaifdkklijpjnaa
open Go.RowKit
set_option linter.unusedVariables false

theorem keep8 {V W w : World} {xb fb : Nat} {p : Pg} {c : Int} (hb : Below V.heap.size V W) (k : Below W.heap.size W w) (hx : xb < V.heap.size) (hf : fb < V.heap.size)
    (h : V.cell? ⟨xb, 0, none⟩ = some (.int .u8 p.fl.toNat) ∧ V.cell? ⟨xb, 1, none⟩ = some (.int .u64 p.po) ∧ V.cell? ⟨xb, 2, none⟩ = some (.int .u32 p.se) ∧ V.cell? ⟨xb, 3, none⟩ = some (.int .u32 p.nu) ∧ V.cell? ⟨xb, 4, none⟩ = some (.string ⟨p.la.toArray⟩) ∧ V.cell? ⟨xb, 5, none⟩ = some (.string ⟨p.bo.toArray⟩) ∧ V.cell? ⟨fb, 0, none⟩ = some (.int .i64 c) ∧ V.cell? ⟨fb, 1, none⟩ = some (.int .i64 0)) : w.cell? ⟨xb, 0, none⟩ = some (.int .u8 p.fl.toNat) ∧ w.cell? ⟨xb, 1, none⟩ = some (.int .u64 p.po) ∧ w.cell? ⟨xb, 2, none⟩ = some (.int .u32 p.se) ∧ w.cell? ⟨xb, 3, none⟩ = some (.int .u32 p.nu) ∧ w.cell? ⟨xb, 4, none⟩ = some (.string ⟨p.la.toArray⟩) ∧ w.cell? ⟨xb, 5, none⟩ = some (.string ⟨p.bo.toArray⟩) ∧ w.cell? ⟨fb, 0, none⟩ = some (.int .i64 c) ∧ w.cell? ⟨fb, 1, none⟩ = some (.int .i64 0) := by
  have hb2 := nextB hb k
  have e : ∀ j, w.cell? ⟨xb, j, none⟩ = V.cell? ⟨xb, j, none⟩ := fun j => hb2.cell (p := ⟨xb, j, none⟩) hx
  have e2 : ∀ j, w.cell? ⟨fb, j, none⟩ = V.cell? ⟨fb, j, none⟩ := fun j => hb2.cell (p := ⟨fb, j, none⟩) hf
  rw [e, e, e, e, e, e, e2, e2]
  exact h

set_option maxRecDepth 100000 in
theorem pprints_over (p : Pg) (bt : Int) (w : World) (h : (400 : Int) < p.la.length ∨ (3000 : Int) < p.bo.length) :
    Calls Try.prog 4 #[pgV p, .int .u8 bt] w fun e w' => e = .returned (.bool true) ∧ Below w.heap.size w w' := by
  unfold pgV pgR
  by_cases h1 : (400 : Int) < p.la.length
  · go_enter Try.func4, Try.ntmps4
    go_wp2_with (go_at_call 10; refine (awake17' _).mono ?_; rintro e w1 ⟨rfl, hb1⟩)
    go_ret
    exact ⟨rfl, below_a1 hb1⟩
  · have h2 : (3000 : Int) < p.bo.length := h.resolve_left h1
    clear h
    go_enter Try.func4, Try.ntmps4
    go_wp2_with (go_at_call 10; refine (awake17' _).mono ?_; rintro e w1 ⟨rfl, hb1⟩)
    go_ret
    exact ⟨rfl, below_a1 hb1⟩

set_option maxHeartbeats 4000000 in
set_option maxRecDepth 100000 in
theorem pprints_in (p : Pg) (bt : UInt8) (c : Int) (s : List UInt8) (ob : Bool) (w : World) (h1 : ¬ (400 : Int) < p.la.length) (h2 : ¬ (3000 : Int) < p.bo.length)
    (PR : Hid (∀ w, Calls Try.prog 11 #[pgV p] w fun e w' => e = .returned (.tuple #[.string ⟨s.toArray⟩, .agg #[.int .i64 c, .int .i64 0]]) ∧ Below w.heap.size w w'))
    (CK : Hid (∀ w, Calls Try.prog 18 #[pgV p] w fun e w' => e = .returned (.agg #[.int .i64 c, .int .i64 0]) ∧ Below w.heap.size w w'))
    (OF : Hid (∀ w, Calls Try.prog 16 #[pgV p] w fun e w' => e = .returned (rgV p) ∧ Below w.heap.size w w'))
    (RC : Hid (∀ w, Calls Try.prog 15 #[rgV p] w fun e w' => e = .returned (.int .i64 c) ∧ Below w.heap.size w w'))
    (HA : Hid (∀ w, Calls Try.prog 19 #[hdV p, .int .u8 bt.toNat] w fun e w' => e = .returned (.bool (hasB p.fl bt)) ∧ Below w.heap.size w w'))
    (OP : Hid (∀ w, Calls Try.prog 20 #[pgV p] w fun e w' => e = .returned (.bool ob) ∧ Below w.heap.size w w'))
    (hob : (p.la.length = 0 ∧ ob = false) ∨ (∃ n, ∃ h : n < p.la.length, p.la.length = n + 1 ∧ ob = (((p.la[n].toNat : Nat) : Int) == 255)))
    (hs : (¬ c = 0 ∧ s = []) ∨ (c = 0 ∧ (Rd.new s 0).Ok ∧ pgParse (Rd.new s 0) = (adv (Rd.new s 0) s.length, p, true) ∧
      Hid (∀ w, Calls Try.prog 21 #[rgV p] w fun e w' => e = .returned (.string ⟨s.toArray⟩) ∧ Below w.heap.size w w'))) :
    Calls Try.prog 4 #[pgV p, .int .u8 bt.toNat] w fun e w' => e = .returned (.bool true) ∧ Below w.heap.size w w' := by
  have F9 := Lib.hid (fun w => fault09_any c 0 w)
  have e1 : ((((p.fl.toNat ||| bt.toNat : Nat) : Int)) == (p.fl.toNat : Int)) = hasB p.fl bt := by rw [← has_or, ← UInt8.toNat_or]; exact u8_beq _ _
  have e2 := u8_or p.fl bt
  have HS := Lib.hid hs
  have HOB := Lib.hid hob
  unfold pgV pgR rgV rgR hdV at *
  clear hs hob
  generalize hasB p.fl bt = hb at *
  go_enter Try.func4, Try.ntmps4
  go_upto_region 5 with (first | (go_at_call 11; (with_reducible refine (PR.out _).mono ?_); rintro e w1 ⟨rfl, hb1⟩; have X1 := Lib.hid (block_below (at_a0 w _ _) hb1); have K1 := Lib.hid (below_a1 hb1); have hz1 := (Array.getElem?_eq_some_iff.1 X1.out).1; clear hb1; have a0 := cell_at (j := 0) X1.out; have a1 := cell_at (j := 1) X1.out; have a2 := cell_at (j := 2) X1.out; have a3 := cell_at (j := 3) X1.out; have a4 := cell_at (j := 4) X1.out; have a5 := cell_at (j := 5) X1.out; simp only [List.getElem?_toArray, List.getElem?_cons_zero, List.getElem?_cons_succ] at a0 a1 a2 a3 a4 a5) | (go_at_call 16; (with_reducible refine (OF.out _).mono ?_); rintro e w2 ⟨rfl, hb2⟩; have X2 := Lib.hid (block_below X1.out (below_a1 hb2)); have G2 := Lib.hid (block_below (at_a0 w1 _ _) hb2); have K2 := Lib.hid (nextB K1.out (below_a1 hb2)); clear hb2) | (go_at_call 15; (with_reducible refine (RC.out _).mono ?_); rintro e w3 ⟨rfl, hb3⟩; have X3 := Lib.hid (block_below X2.out hb3); have G3 := Lib.hid (block_below G2.out hb3); have K3 := Lib.hid (nextB K2.out hb3); clear hb3))
  have cc : w3.cell? ⟨w.heap.size, 0, none⟩ = some (.int .u8 p.fl.toNat) ∧ w3.cell? ⟨w.heap.size, 1, none⟩ = some (.int .u64 p.po) ∧ w3.cell? ⟨w.heap.size, 2, none⟩ = some (.int .u32 p.se) ∧ w3.cell? ⟨w.heap.size, 3, none⟩ = some (.int .u32 p.nu) ∧ w3.cell? ⟨w.heap.size, 4, none⟩ = some (.string ⟨p.la.toArray⟩) ∧ w3.cell? ⟨w.heap.size, 5, none⟩ = some (.string ⟨p.bo.toArray⟩) ∧ w3.cell? ⟨w1.heap.size, 0, none⟩ = some (.int .i64 c) ∧ w3.cell? ⟨w1.heap.size, 1, none⟩ = some (.int .i64 0) := ⟨cell_at (j := 0) X3.out, cell_at (j := 1) X3.out, cell_at (j := 2) X3.out, cell_at (j := 3) X3.out, cell_at (j := 4) X3.out, cell_at (j := 5) X3.out, cell_at (j := 0) G3.out, cell_at (j := 1) G3.out⟩
  have hxb := (Array.getElem?_eq_some_iff.1 X3.out).1
  have hfb := (Array.getElem?_eq_some_iff.1 G3.out).1
  clear hz1
  generalize hxe : w.heap.size = xb at *
  generalize w1.heap.size = fb at *
  have HX := Lib.hid hxe
  clear hxe RC X1 X2 G2 K1 K2 a0 a1 a2 a3 a4 a5
  go_region_held3 (fun w' => w'.cell? ⟨xb, 0, none⟩ = some (.int .u8 p.fl.toNat) ∧ w'.cell? ⟨xb, 1, none⟩ = some (.int .u64 p.po) ∧ w'.cell? ⟨xb, 2, none⟩ = some (.int .u32 p.se) ∧ w'.cell? ⟨xb, 3, none⟩ = some (.int .u32 p.nu) ∧ w'.cell? ⟨xb, 4, none⟩ = some (.string ⟨p.la.toArray⟩) ∧ w'.cell? ⟨xb, 5, none⟩ = some (.string ⟨p.bo.toArray⟩) ∧ w'.cell? ⟨fb, 0, none⟩ = some (.int .i64 c) ∧ w'.cell? ⟨fb, 1, none⟩ = some (.int .i64 0)) (first | exact cc | exact x6 | exact x5 | exact x4 | fail)
    (first | (go_at_call 17; (with_reducible refine (F9.out _).mono ?_); rintro e w4 ⟨rfl, hb4⟩; have k4 := Lib.hid (drewB hb4); have x4 := keep8 k4.out (Below.refl _ _) hxb hfb cc; clear hb4) | (go_at_call 18; (with_reducible refine (CK.out _).mono ?_); rintro e w5 ⟨rfl, hb5⟩; have k5 := Lib.hid (nextB k4.out hb5); have x5 := keep8 k5.out (Below.refl _ _) hxb hfb cc; clear hb5 x4) | (go_at_call 19; (with_reducible refine (HA.out _).mono ?_); rintro e w6 ⟨rfl, hb6⟩; have k6 := Lib.hid (nextB k5.out hb6); have x6 := keep8 k6.out (Below.refl _ _) hxb hfb cc; clear hb6 x5))
  have hz3 := HX.out
  have K3x : Hid (Below w.heap.size w w3) := Lib.hid (by rw [hz3]; exact K3.out)
  clear hz3 K3
  rcases HOB.out with ⟨hn, rfl⟩ | ⟨n, hn, hn1, rfl⟩
  · have z1 : ¬ (0 : Int) < p.la.length := by omega
    have z2 : ¬ 0 < p.la.length := by omega
    clear HOB hn
    go_upto_region 10 with (go_at_call 20; (with_reducible refine (OP.out _).mono ?_); rintro e w7 ⟨rfl, hb7⟩; have k7 := Lib.hid (nextB k6.out hb7); have X7 := Lib.hid (block_below X3.out k7.out); have G7 := Lib.hid (block_below G3.out k7.out); have K7 := Lib.hid (nextB K3x.out k7.out); have b0 := cell_at (j := 0) X7.out; have b1 := cell_at (j := 1) X7.out; have b2 := cell_at (j := 2) X7.out; have b3 := cell_at (j := 3) X7.out; have b4 := cell_at (j := 4) X7.out; have b5 := cell_at (j := 5) X7.out; simp only [List.getElem?_toArray, List.getElem?_cons_zero, List.getElem?_cons_succ] at b0 b1 b2 b3 b4 b5; clear hb7)
    clear k4 k5 k6 k7 X3 G3 x6 cc F9 CK HA OP e1 e2
    rcases HS.out with ⟨hc, rfl⟩ | ⟨rfl, hok, hps, RP⟩
    · have t1 : (c != 0) = true := by simpa using hc
      clear HS hc
      go_wp2_with (go_at_call 10; (with_reducible refine (awake17' _).mono ?_); rintro e w8 ⟨rfl, hb8⟩; have K8 := Lib.hid (nextB K7.out hb8); clear hb8)
      go_ret
      exact ⟨rfl, K8.out⟩
    · have PP : Hid (∀ b w, RdAt w b (Rd.new s 0) → Calls Try.prog 13 #[.pointer (some ⟨b, 0, none⟩)] w fun e w' => e = .returned (.tuple #[.agg #[.int .u8 p.fl.toNat, .int .u64 p.po, .int .u32 p.se, .int .u32 p.nu, .string ⟨p.la.toArray⟩, .string ⟨p.bo.toArray⟩], .bool true]) ∧ Only b w w') :=
        Lib.hid fun b w h => by
          have h1 := parse_any b _ w h hok
          rw [hps] at h1
          exact h1.mono fun e w' ⟨h2, _, h3⟩ => ⟨h2, h3⟩
      have RD := Lib.hid (fun w => read_any s w)
      clear HS hok hps
      have hz7 := (Array.getElem?_eq_some_iff.1 X7.out).1
      go_upto_region 13 with (first | (go_at_call 14; (with_reducible refine (RD.out _).mono ?_); rintro e w8 ⟨rfl, hr8, hb8⟩; have R8 := Lib.hid hr8; have K8 := Lib.hid (nextB K7.out hb8); have X8 := Lib.hid (block_below X7.out hb8); clear hr8 hb8) | (go_at_call 13; (with_reducible refine (PP.out _ _ R8.out).mono ?_); rintro e w9 ⟨rfl, ho9⟩; have K9 := Lib.hid (onlyB K8.out ho9 K7.out.size); have X9 := Lib.hid (block_only X8.out ho9 (by omega)); clear ho9))
      have X10 := Lib.hid (block_below X9.out ((Below.refl _ w9).alloc (Nat.le_refl _) (.cells #[.int .u8 p.fl.toNat, .int .u64 p.po, .int .u32 p.se, .int .u32 p.nu, .string ⟨p.la.toArray⟩, .string ⟨p.bo.toArray⟩] 27)))
      have Y10 := Lib.hid (at_a0 w9 #[.int .u8 p.fl.toNat, .int .u64 p.po, .int .u32 p.se, .int .u32 p.nu, .string ⟨p.la.toArray⟩, .string ⟨p.bo.toArray⟩] 27)
      have K10 := Lib.hid (K9.out.alloc K9.out.size (.cells #[.int .u8 p.fl.toNat, .int .u64 p.po, .int .u32 p.se, .int .u32 p.nu, .string ⟨p.la.toArray⟩, .string ⟨p.bo.toArray⟩] 27))
      generalize w9.alloc (.cells #[.int .u8 p.fl.toNat, .int .u64 p.po, .int .u32 p.se, .int .u32 p.nu, .string ⟨p.la.toArray⟩, .string ⟨p.bo.toArray⟩] 27) = v at *
      generalize w9.heap.size = qb at *
      clear X7 X8 X9 K7 K8 K9 R8 PP RD hz7
      go_wp2_with (first | (go_at_call 10; (with_reducible refine (awake17' _).mono ?_); rintro e w11 ⟨rfl, hb11⟩; have K11 := Lib.hid (nextB K10.out hb11); have X11 := Lib.hid (block_below X10.out hb11); have Y11 := Lib.hid (block_below Y10.out hb11); have c0 := cell_at (j := 0) X11.out; have c1 := cell_at (j := 1) X11.out; have c2 := cell_at (j := 2) X11.out; have c3 := cell_at (j := 3) X11.out; have c4 := cell_at (j := 4) X11.out; have c5 := cell_at (j := 5) X11.out; simp only [List.getElem?_toArray, List.getElem?_cons_zero, List.getElem?_cons_succ] at c0 c1 c2 c3 c4 c5; clear hb11) | (go_at_call 16; (with_reducible refine (OF.out _).mono ?_); rintro e w12 ⟨rfl, hb12⟩; have K12 := Lib.hid (nextB K11.out hb12); have X12 := Lib.hid (block_below X11.out hb12); have Y12 := Lib.hid (block_below Y11.out hb12); clear hb12) | (go_at_call 21; (with_reducible refine (RP.out _).mono ?_); rintro e w13 ⟨rfl, hb13⟩; have K13 := Lib.hid (nextB K12.out hb13); have X13 := Lib.hid (block_below X12.out hb13); have Y13 := Lib.hid (block_below Y12.out hb13); have d0 := cell_at (j := 0) X13.out; have d1 := cell_at (j := 1) X13.out; have d2 := cell_at (j := 2) X13.out; have d3 := cell_at (j := 3) X13.out; have d4 := cell_at (j := 4) X13.out; have d5 := cell_at (j := 5) X13.out; simp only [List.getElem?_toArray, List.getElem?_cons_zero, List.getElem?_cons_succ] at d0 d1 d2 d3 d4 d5; have f0 := cell_at (j := 0) Y13.out; have f1 := cell_at (j := 1) Y13.out; have f2 := cell_at (j := 2) Y13.out; have f3 := cell_at (j := 3) Y13.out; have f4 := cell_at (j := 4) Y13.out; have f5 := cell_at (j := 5) Y13.out; simp only [List.getElem?_toArray, List.getElem?_cons_zero, List.getElem?_cons_succ] at f0 f1 f2 f3 f4 f5; clear hb13))
      go_ret
      exact ⟨rfl, K13.out⟩
  · have z1 : (0 : Int) < p.la.length := by omega
    have z2 : 0 < p.la.length := by omega
    have z3 : ((p.la.length : Int) - 1).toNat = n := by omega
    have z4 : (0 : Int) ≤ (p.la.length : Int) - 1 := by omega
    have HN1 := Lib.hid hn1
    clear HOB hn1
    go_upto_region 10 with (go_at_call 20; (with_reducible refine (OP.out _).mono ?_); rintro e w7 ⟨rfl, hb7⟩; have k7 := Lib.hid (nextB k6.out hb7); have X7 := Lib.hid (block_below X3.out k7.out); have G7 := Lib.hid (block_below G3.out k7.out); have K7 := Lib.hid (nextB K3x.out k7.out); have b0 := cell_at (j := 0) X7.out; have b1 := cell_at (j := 1) X7.out; have b2 := cell_at (j := 2) X7.out; have b3 := cell_at (j := 3) X7.out; have b4 := cell_at (j := 4) X7.out; have b5 := cell_at (j := 5) X7.out; simp only [List.getElem?_toArray, List.getElem?_cons_zero, List.getElem?_cons_succ] at b0 b1 b2 b3 b4 b5; clear hb7)
    clear k4 k5 k6 k7 X3 G3 x6 cc F9 CK HA OP e1 e2
    rcases HS.out with ⟨hc, rfl⟩ | ⟨rfl, hok, hps, RP⟩
    · have t1 : (c != 0) = true := by simpa using hc
      clear HS hc
      go_wp2_with (go_at_call 10; (with_reducible refine (awake17' _).mono ?_); rintro e w8 ⟨rfl, hb8⟩; have K8 := Lib.hid (nextB K7.out hb8); clear hb8)
      go_ret
      exact ⟨rfl, K8.out⟩
    · have PP : Hid (∀ b w, RdAt w b (Rd.new s 0) → Calls Try.prog 13 #[.pointer (some ⟨b, 0, none⟩)] w fun e w' => e = .returned (.tuple #[.agg #[.int .u8 p.fl.toNat, .int .u64 p.po, .int .u32 p.se, .int .u32 p.nu, .string ⟨p.la.toArray⟩, .string ⟨p.bo.toArray⟩], .bool true]) ∧ Only b w w') :=
        Lib.hid fun b w h => by
          have h1 := parse_any b _ w h hok
          rw [hps] at h1
          exact h1.mono fun e w' ⟨h2, _, h3⟩ => ⟨h2, h3⟩
      have RD := Lib.hid (fun w => read_any s w)
      clear HS hok hps
      have hz7 := (Array.getElem?_eq_some_iff.1 X7.out).1
      go_upto_region 13 with (first | (go_at_call 14; (with_reducible refine (RD.out _).mono ?_); rintro e w8 ⟨rfl, hr8, hb8⟩; have R8 := Lib.hid hr8; have K8 := Lib.hid (nextB K7.out hb8); have X8 := Lib.hid (block_below X7.out hb8); clear hr8 hb8) | (go_at_call 13; (with_reducible refine (PP.out _ _ R8.out).mono ?_); rintro e w9 ⟨rfl, ho9⟩; have K9 := Lib.hid (onlyB K8.out ho9 K7.out.size); have X9 := Lib.hid (block_only X8.out ho9 (by omega)); clear ho9))
      have X10 := Lib.hid (block_below X9.out ((Below.refl _ w9).alloc (Nat.le_refl _) (.cells #[.int .u8 p.fl.toNat, .int .u64 p.po, .int .u32 p.se, .int .u32 p.nu, .string ⟨p.la.toArray⟩, .string ⟨p.bo.toArray⟩] 27)))
      have Y10 := Lib.hid (at_a0 w9 #[.int .u8 p.fl.toNat, .int .u64 p.po, .int .u32 p.se, .int .u32 p.nu, .string ⟨p.la.toArray⟩, .string ⟨p.bo.toArray⟩] 27)
      have K10 := Lib.hid (K9.out.alloc K9.out.size (.cells #[.int .u8 p.fl.toNat, .int .u64 p.po, .int .u32 p.se, .int .u32 p.nu, .string ⟨p.la.toArray⟩, .string ⟨p.bo.toArray⟩] 27))
      generalize w9.alloc (.cells #[.int .u8 p.fl.toNat, .int .u64 p.po, .int .u32 p.se, .int .u32 p.nu, .string ⟨p.la.toArray⟩, .string ⟨p.bo.toArray⟩] 27) = v at *
      generalize w9.heap.size = qb at *
      clear X7 X8 X9 K7 K8 K9 R8 PP RD hz7
      go_wp2_with (first | (go_at_call 10; (with_reducible refine (awake17' _).mono ?_); rintro e w11 ⟨rfl, hb11⟩; have K11 := Lib.hid (nextB K10.out hb11); have X11 := Lib.hid (block_below X10.out hb11); have Y11 := Lib.hid (block_below Y10.out hb11); have c0 := cell_at (j := 0) X11.out; have c1 := cell_at (j := 1) X11.out; have c2 := cell_at (j := 2) X11.out; have c3 := cell_at (j := 3) X11.out; have c4 := cell_at (j := 4) X11.out; have c5 := cell_at (j := 5) X11.out; simp only [List.getElem?_toArray, List.getElem?_cons_zero, List.getElem?_cons_succ] at c0 c1 c2 c3 c4 c5; clear hb11) | (go_at_call 16; (with_reducible refine (OF.out _).mono ?_); rintro e w12 ⟨rfl, hb12⟩; have K12 := Lib.hid (nextB K11.out hb12); have X12 := Lib.hid (block_below X11.out hb12); have Y12 := Lib.hid (block_below Y11.out hb12); clear hb12) | (go_at_call 21; (with_reducible refine (RP.out _).mono ?_); rintro e w13 ⟨rfl, hb13⟩; have K13 := Lib.hid (nextB K12.out hb13); have X13 := Lib.hid (block_below X12.out hb13); have Y13 := Lib.hid (block_below Y12.out hb13); have d0 := cell_at (j := 0) X13.out; have d1 := cell_at (j := 1) X13.out; have d2 := cell_at (j := 2) X13.out; have d3 := cell_at (j := 3) X13.out; have d4 := cell_at (j := 4) X13.out; have d5 := cell_at (j := 5) X13.out; simp only [List.getElem?_toArray, List.getElem?_cons_zero, List.getElem?_cons_succ] at d0 d1 d2 d3 d4 d5; have f0 := cell_at (j := 0) Y13.out; have f1 := cell_at (j := 1) Y13.out; have f2 := cell_at (j := 2) Y13.out; have f3 := cell_at (j := 3) Y13.out; have f4 := cell_at (j := 4) Y13.out; have f5 := cell_at (j := 5) Y13.out; simp only [List.getElem?_toArray, List.getElem?_cons_zero, List.getElem?_cons_succ] at f0 f1 f2 f3 f4 f5; clear hb13))
      go_ret
      exact ⟨rfl, K13.out⟩

theorem walk_PagePrints (w : World) (v : Value) (hv : ∃ q : Pg, v = pgV q ∧ q.Ok ∧ q.la.length ≤ maxLen ∧ q.bo.length ≤ maxLen) (bt : Int) (hbt : (Lit.int .u8 bt).wf = true) :
    Calls Try.prog 4 #[v, .int .u8 bt] w fun e w' => e = .returned (.bool true) ∧ Below w.heap.size w w' := by
  obtain ⟨p, rfl, hp, _, _⟩ := hv
  obtain ⟨b, rfl⟩ := wf_u8 hbt
  by_cases h1 : (400 : Int) < p.la.length
  · exact pprints_over p _ w (.inl h1)
  by_cases h2 : (3000 : Int) < p.bo.length
  · exact pprints_over p _ w (.inr h2)
  have hob : (p.la.length = 0 ∧ openB p.la = false) ∨ (∃ n, ∃ h : n < p.la.length, p.la.length = n + 1 ∧ openB p.la = (((p.la[n].toNat : Nat) : Int) == 255)) := by
    rcases List.eq_nil_or_concat p.la with h | ⟨l, c, h⟩
    · rw [h]; exact .inl ⟨rfl, rfl⟩
    · rw [List.concat_eq_append] at h
      right
      refine ⟨l.length, by rw [h]; simp, by rw [h]; simp, ?_⟩
      have e : openB p.la = (c == 255) := by rw [h]; unfold openB; rw [List.getLast?_concat]; simp
      have e3 : p.la[l.length]'(by rw [h]; simp) = c := by simp [h]
      rw [e, e3]
      exact (u8_beq c 255).symm
  have base := fun s PR hs => pprints_in p b (checkC p) s (openB p.la) w h1 h2 PR (Lib.hid fun w => check_any p w (by omega)) (Lib.hid fun w => of_any p w hp) (Lib.hid fun w => rcheck_any p w (by omega)) (Lib.hid fun w => has_any p b w) (Lib.hid fun w => open_any p w (by omega)) hob hs
  by_cases hc : checkC p = 0
  · refine base (printL p) (Lib.hid fun w => ?_) (.inr ⟨hc, ?_, parse_text p hp hc, Lib.hid fun w => rprint_any p w hp (by omega) (by omega)⟩)
    · rw [hc]
      exact print_ok p w hp (by omega) (by omega) hc
    · exact new_ok _ 0 (by rw [print_len]; omega) (by decide)
  · exact base [] (Lib.hid fun w => print_bad p w (by omega) hc) (.inl ⟨hc, rfl⟩)
end Go.Proofs.Ytaifdkklijpjnaa
