/- Layer 17 (page): a page's bytes as the document has them, walked. -/
import Derived.Test.YtaifdkklijpjnaaPage6
namespace Go.Proofs.Ytaifdkklijpjnaa
open Go.RowKit
set_option linter.unusedVariables false

theorem add_run (x y : List UInt8) (h : x.length + y.length ≤ 8388608) : ∃ z, z = x ++ y ∧ ∀ w : World, (Op.stringOp .add ⟨x.toArray⟩ ⟨y.toArray⟩).run Try.prog w = .ok (.string ⟨z.toArray⟩) w :=
  ⟨_, rfl, fun w => run_string_add_lists w x y (by omega) (by omega)⟩

set_option maxHeartbeats 4000000 in
set_option maxRecDepth 100000 in
theorem rwith_any (p : Pg) (four : List UInt8) (w : World) (hp : p.Ok) (hl : p.la.length ≤ 1000000) (hb : p.bo.length ≤ 1000000) (h4 : four.length ≤ 4) :
    Calls Try.prog 50 #[rgV p, .string ⟨four.toArray⟩] w fun e w' => e = .returned (.string ⟨(partsL p four).flatten.toArray⟩) ∧ Below w.heap.size w w' := by
  have hf := UInt8.toNat_lt p.fl
  have B1 := Lib.hid (fun w => rbig_any p.fl.toNat 1 1 w (Lib.hid (by omega)) (Lib.hid (by decide)))
  have S1 := Lib.hid (fun w => rsmall_any p.po 8 8 w (Lib.hid hp.1) (Lib.hid (by decide)))
  have S2 := Lib.hid (fun w => rsmall_any p.se 4 4 w (Lib.hid (by have := hp.2.1; omega)) (Lib.hid (by decide)))
  have S3 := Lib.hid (fun w => rsmall_any p.nu 4 4 w (Lib.hid (by have := hp.2.2; omega)) (Lib.hid (by decide)))
  have B2 := Lib.hid (fun w => rbig_any p.la.length 1 1 w (Lib.hid (by omega)) (Lib.hid (by decide)))
  have hsp := parts_spell0 p four
  have q1 := bigL_len 1 p.fl.toNat
  have q2 := smallL_len 8 p.po
  have q3 := smallL_len 4 p.se
  have q4 := smallL_len 4 p.nu
  have q5 := bigL_len 1 p.la.length
  unfold rgV rgR
  have e1 := wrap_u64 p.la.length (by omega)
  have e2 := wrap_u64 p.fl.toNat (by omega)
  clear hp hf
  generalize bigL p.fl.toNat 1 = Q1 at *
  generalize smallL p.po 8 = Q2 at *
  generalize smallL p.se 4 = Q3 at *
  generalize smallL p.nu 4 = Q4 at *
  generalize bigL p.la.length 1 = Q5 at *
  have u1 : Q1.length ≤ 1 := by omega
  have u2 : Q2.length ≤ 8 := by omega
  have u3 : Q3.length ≤ 4 := by omega
  have u4 : Q4.length ≤ 4 := by omega
  have u5 : Q5.length ≤ 1 := by omega
  obtain ⟨L1, n1, A1⟩ := add_run [79, 103, 103, 83, 0] Q1 (by simp; omega)
  obtain ⟨L2, n2, A2⟩ := add_run L1 Q2 (by rw [n1]; simp; omega)
  obtain ⟨L3, n3, A3⟩ := add_run L2 Q3 (by rw [n2, n1]; simp; omega)
  obtain ⟨L4, n4, A4⟩ := add_run L3 Q4 (by rw [n3, n2, n1]; simp; omega)
  obtain ⟨L5, n5, A5⟩ := add_run L4 four (by rw [n4, n3, n2, n1]; simp; omega)
  obtain ⟨L6, n6, A6⟩ := add_run L5 Q5 (by rw [n5, n4, n3, n2, n1]; simp; omega)
  obtain ⟨L7, n7, A7⟩ := add_run L6 p.la (by rw [n6, n5, n4, n3, n2, n1]; simp; omega)
  obtain ⟨L8, n8, A8⟩ := add_run L7 p.bo (by rw [n7, n6, n5, n4, n3, n2, n1]; simp; omega)
  have HL := Lib.hid (show L8 = (partsL p four).flatten by rw [hsp, n8, n7, n6, n5, n4, n3, n2, n1]; simp)
  clear n1 n2 n3 n4 n5 n6 n7 n8 u1 u2 u3 u4 u5 h4
  clear hsp q1 q2 q3 q4 q5
  go_enter Try.func50, Try.ntmps50
  go_upto_region 1 with (fail)
  have hbx := at_a0 w #[.int .i64 p.fl.toNat, .int .u64 p.po, .int .u64 p.se, .int .u64 p.nu, .string ⟨p.la.toArray⟩, .string ⟨p.bo.toArray⟩] 43
  have HB0 := Lib.hid (show Below w.heap.size w (w.alloc (.cells #[.int .i64 p.fl.toNat, .int .u64 p.po, .int .u64 p.se, .int .u64 p.nu, .string ⟨p.la.toArray⟩, .string ⟨p.bo.toArray⟩] 43)) from (Below.refl _ _).alloc (Nat.le_refl _) _)
  have hxb : w.heap.size < (w.alloc (.cells #[.int .i64 p.fl.toNat, .int .u64 p.po, .int .u64 p.se, .int .u64 p.nu, .string ⟨p.la.toArray⟩, .string ⟨p.bo.toArray⟩] 43)).heap.size := by simp
  have cc : _ ∧ _ ∧ _ ∧ _ ∧ _ ∧ _ := ⟨cell_at (j := 0) hbx, cell_at (j := 1) hbx, cell_at (j := 2) hbx, cell_at (j := 3) hbx, cell_at (j := 4) hbx, cell_at (j := 5) hbx⟩
  simp only [List.getElem?_toArray, List.getElem?_cons_zero, List.getElem?_cons_succ] at cc
  generalize w.alloc (.cells #[.int .i64 p.fl.toNat, .int .u64 p.po, .int .u64 p.se, .int .u64 p.nu, .string ⟨p.la.toArray⟩, .string ⟨p.bo.toArray⟩] 43) = V at *
  generalize hxe : w.heap.size = xb at *
  have HX := Lib.hid hxe
  clear hbx hxe
  go_region_held3 (fun w' => w'.cell? ⟨xb, 0, none⟩ = some (.int .i64 p.fl.toNat) ∧ w'.cell? ⟨xb, 1, none⟩ = some (.int .u64 p.po) ∧ w'.cell? ⟨xb, 2, none⟩ = some (.int .u64 p.se) ∧ w'.cell? ⟨xb, 3, none⟩ = some (.int .u64 p.nu) ∧ w'.cell? ⟨xb, 4, none⟩ = some (.string ⟨p.la.toArray⟩) ∧ w'.cell? ⟨xb, 5, none⟩ = some (.string ⟨p.bo.toArray⟩)) (first | exact cc | exact x5 | exact x4 | exact x3 | exact x2 | exact x1 | fail)
    (first | (go_at_call 66; have _chk := k4; (with_reducible refine (B2.out _).mono ?_); rintro e w5 ⟨rfl, hb5⟩; have k5 := Lib.hid (nextB k4.out hb5); have x5 := keep6 k5.out (Below.refl _ _) hxb cc; clear hb5 x4) | (go_at_call 51; have _chk := k3; (with_reducible refine (S3.out _).mono ?_); rintro e w4 ⟨rfl, hb4⟩; have k4 := Lib.hid (nextB k3.out hb4); have x4 := keep6 k4.out (Below.refl _ _) hxb cc; clear hb4 x3) | (go_at_call 51; have _chk := k2; (with_reducible refine (S2.out _).mono ?_); rintro e w3 ⟨rfl, hb3⟩; have k3 := Lib.hid (nextB k2.out hb3); have x3 := keep6 k3.out (Below.refl _ _) hxb cc; clear hb3 x2) | (go_at_call 51; have _chk := k1; (with_reducible refine (S1.out _).mono ?_); rintro e w2 ⟨rfl, hb2⟩; have k2 := Lib.hid (nextB k1.out hb2); have x2 := keep6 k2.out (Below.refl _ _) hxb cc; clear hb2 x1) | (go_at_call 66; (with_reducible refine (B1.out _).mono ?_); rintro e w1 ⟨rfl, hb1⟩; have k1 := Lib.hid (drewB hb1); have x1 := keep6 k1.out (Below.refl _ _) hxb cc; clear hb1))
  go_wp2
  go_ret
  have hz := HX.out
  subst hz
  exact ⟨by rw [← HL.out]; rfl, nextB HB0.out k5.out⟩

set_option maxHeartbeats 4000000 in
set_option maxRecDepth 100000 in
theorem rprint_any (p : Pg) (w : World) (hp : p.Ok) (hl : p.la.length ≤ 500000) (hb : p.bo.length ≤ 500000) :
    Calls Try.prog 21 #[rgV p] w fun e w' => e = .returned (.string ⟨(printL p).toArray⟩) ∧ Below w.heap.size w w' := by
  have WI := Lib.hid (fun w => rwith_any p [0, 0, 0, 0] w hp (by omega) (by omega) (by decide))
  have RO : Hid (∀ w, Calls Try.prog 49 #[.int .u64 0, .string ⟨(partsL p [0, 0, 0, 0]).flatten.toArray⟩] w fun e w' => e = .returned (.int .u64 (sumP p).toNat) ∧ w = w') :=
    Lib.hid (fun w => by
      have h := refOf_any 0 (partsL p [0, 0, 0, 0]).flatten w (by have := parts_flat p [0, 0, 0, 0] 1000000 (by decide) (by omega) (by omega) (by decide); omega)
      rw [add_flatten] at h
      exact h)
  have SM := Lib.hid (fun w => rsmall_any (sumP p).toNat 4 4 w (Lib.hid (by have := (sumP p).isLt; omega)) (Lib.hid (by decide)))
  have W2 := Lib.hid (fun w => rwith_any p (smallL (sumP p).toNat 4) w hp (by omega) (by omega) (by rw [smallL_len]; decide))
  unfold printL
  generalize (partsL p [0, 0, 0, 0]).flatten = F0 at *
  generalize (partsL p (smallL (sumP p).toNat 4)).flatten = F1 at *
  generalize smallL (sumP p).toNat 4 = four at *
  generalize sumP p = z at *
  unfold rgV rgR at *
  clear hp hl hb
  go_enter Try.func21, Try.ntmps21
  go_upto_region 2 with (first | (go_at_call 50; (with_reducible refine (WI.out _).mono ?_); rintro e w1 ⟨rfl, hb1⟩; have HB1 := Lib.hid hb1; clear hb1) | (go_at_call 49; (with_reducible refine (RO.out _).mono ?_); rintro e w2 ⟨rfl, rfl⟩))
  have hbx := block_below (at_a0 w #[.int .i64 p.fl.toNat, .int .u64 p.po, .int .u64 p.se, .int .u64 p.nu, .string ⟨p.la.toArray⟩, .string ⟨p.bo.toArray⟩] 43) HB1.out
  have HB0 := Lib.hid (below_a1 HB1.out)
  have hxb := (Array.getElem?_eq_some_iff.1 hbx).1
  have cc : _ ∧ _ ∧ _ ∧ _ ∧ _ ∧ _ := ⟨cell_at (j := 0) hbx, cell_at (j := 1) hbx, cell_at (j := 2) hbx, cell_at (j := 3) hbx, cell_at (j := 4) hbx, cell_at (j := 5) hbx⟩
  simp only [List.getElem?_toArray, List.getElem?_cons_zero, List.getElem?_cons_succ] at cc
  generalize hxe : w.heap.size = xb at *
  have HX := Lib.hid hxe
  clear hbx hxe HB1 WI RO
  go_region_held3 (fun w' => w'.cell? ⟨xb, 0, none⟩ = some (.int .i64 p.fl.toNat) ∧ w'.cell? ⟨xb, 1, none⟩ = some (.int .u64 p.po) ∧ w'.cell? ⟨xb, 2, none⟩ = some (.int .u64 p.se) ∧ w'.cell? ⟨xb, 3, none⟩ = some (.int .u64 p.nu) ∧ w'.cell? ⟨xb, 4, none⟩ = some (.string ⟨p.la.toArray⟩) ∧ w'.cell? ⟨xb, 5, none⟩ = some (.string ⟨p.bo.toArray⟩)) (first | exact cc | exact x4 | exact x3 | fail)
    (first | (go_at_call 51; (with_reducible refine (SM.out _).mono ?_); rintro e w3 ⟨rfl, hb3⟩; have k3 := Lib.hid (drewB hb3); have x3 := keep6 k3.out (Below.refl _ _) hxb cc; clear hb3) | (go_at_call 50; (with_reducible refine (W2.out _).mono ?_); rintro e w4 ⟨rfl, hb4⟩; have k4 := Lib.hid (nextB k3.out hb4); have x4 := keep6 k4.out (Below.refl _ _) hxb cc; clear hb4 x3))
  go_wp2
  go_ret
  have hz := HX.out
  subst hz
  exact ⟨rfl, nextB HB0.out k4.out⟩

theorem zero_ok : zeroP.Ok := ⟨by decide, by decide, by decide⟩
theorem zero_check : checkC zeroP = 0 := check_of (by decide) rfl
/-- a text that is one page, read -/
theorem parse_text (p : Pg) (hp : p.Ok) (hc : checkC p = 0) : pgParse (Rd.new (printL p) 0) = (adv (Rd.new (printL p) 0) (printL p).length, p, true) :=
  parse_run _ p [] hp hc (by rw [List.append_nil]; exact Run.new _ _)

set_option maxHeartbeats 4000000 in
set_option maxRecDepth 100000 in
theorem awake17 (w : World) : Calls Try.prog 34 #[] w fun e w' => e = .returned (.bool true) ∧ Below w.heap.size w w' := by
  have PR : Hid (∀ w, Calls Try.prog 11 #[.agg #[.int .u8 0, .int .u64 0, .int .u32 0, .int .u32 0, .string ⟨#[]⟩, .string ⟨#[]⟩]] w fun e w' => e = .returned (.tuple #[.string ⟨(printL zeroP).toArray⟩, .agg #[.int .i64 0, .int .i64 0]]) ∧ Below w.heap.size w w') :=
    Lib.hid fun w => print_ok zeroP w zero_ok (by decide) (by decide) zero_check
  have RD := Lib.hid (fun w => read_any (printL zeroP) w)
  have hlen := print_len zeroP
  have hlen2 : (printL zeroP).length = 27 := hlen
  have PP : Hid (∀ b w, RdAt w b (Rd.new (printL zeroP) 0) → Calls Try.prog 13 #[.pointer (some ⟨b, 0, none⟩)] w fun e w' => e = .returned (.tuple #[.agg #[.int .u8 0, .int .u64 0, .int .u32 0, .int .u32 0, .string ⟨#[]⟩, .string ⟨#[]⟩], .bool true]) ∧ Only b w w') :=
    Lib.hid fun b w h => by
      have h1 := parse_any b _ w h (new_ok _ 0 (by rw [hlen2]; decide) (by decide))
      rw [parse_text zeroP zero_ok zero_check] at h1
      exact h1.mono fun e w' ⟨h2, _, h3⟩ => ⟨h2, h3⟩
  have OP : Hid (∀ w, Calls Try.prog 20 #[.agg #[.int .u8 0, .int .u64 0, .int .u32 0, .int .u32 0, .string ⟨#[3, 255]⟩, .string ⟨#[]⟩]] w fun e w' => e = .returned (.bool true) ∧ Below w.heap.size w w') :=
    Lib.hid fun w => open_any ⟨0, 0, 0, 0, [3, 255], []⟩ w (by decide)
  have BD := Lib.hid (fun w => bad_any 0 0 w)
  rw [show ((0 : Int) != 0) = false by rfl] at BD
  have t1 : (((printL zeroP).length : Int) == 27) = true := by rw [hlen2]; rfl
  have t2 : (printL zeroP).length ≤ 27 := by omega
  clear hlen hlen2
  generalize printL zeroP = s at *
  go_enter Try.func34, Try.ntmps34
  go_wp2_with (first | (go_at_call 11; (with_reducible refine (PR.out _).mono ?_); rintro e w1 ⟨rfl, hb1⟩; have K1 := Lib.hid hb1; clear hb1) | (go_at_call 14; (with_reducible refine (RD.out _).mono ?_); rintro e w2 ⟨rfl, hr2, hb2⟩; have R2 : Hid (RdAt w2 (w1.heap.size + 1) (Rd.new s 0)) := Lib.hid (by simpa using hr2); have F2 := Lib.hid (block_below (at_a0 w1 _ _) hb2); have K2 := Lib.hid (nextB K1.out (below_a1 hb2)); clear hr2 hb2) | (go_at_call 13; (with_reducible refine (PP.out _ _ R2.out).mono ?_); rintro e w3 ⟨rfl, ho3⟩; have F3 := Lib.hid (block_only F2.out ho3 (by omega)); have K3 := Lib.hid (onlyB K2.out ho3 (by have := K1.out.size; omega)); clear ho3) | (go_at_call 57; (with_reducible refine (awake16 _).mono ?_); rintro e w4 ⟨rfl, hb4⟩; have K4 := Lib.hid (nextB K3.out (below_a1 hb4)); have F4 := block_below (block_below F3.out ((Below.refl _ _).alloc (Nat.le_refl _) _)) hb4; have G4 := Lib.hid (block_below (at_a0 w3 _ _) hb4); have c0 := cell_at (j := 0) F4; have c1 := cell_at (j := 1) F4; simp only [List.getElem?_toArray, List.getElem?_cons_zero, List.getElem?_cons_succ] at c0 c1; clear hb4 F4) | (go_at_call 12; (with_reducible refine (BD.out _).mono ?_); rintro e w5 ⟨rfl, hb5⟩; have K5 := Lib.hid (nextB K4.out hb5); have G5 := block_below G4.out hb5; have d0 := cell_at (j := 0) G5; have d1 := cell_at (j := 1) G5; have d2 := cell_at (j := 2) G5; have d3 := cell_at (j := 3) G5; have d4 := cell_at (j := 4) G5; have d5 := cell_at (j := 5) G5; simp only [List.getElem?_toArray, List.getElem?_cons_zero, List.getElem?_cons_succ] at d0 d1 d2 d3 d4 d5; clear hb5 G5) | (go_at_call 20; (with_reducible refine (OP.out _).mono ?_); rintro e w6 ⟨rfl, hb6⟩; have K6 := Lib.hid hb6; clear hb6))
  go_ret
  exact ⟨rfl, nextB K5.out K6.out⟩
set_option maxRecDepth 100000 in
theorem awake17' (w : World) : Calls Try.prog 10 #[] w fun e w' => e = .returned (.bool true) ∧ Below w.heap.size w w' := by
  go_enter Try.func10, Try.ntmps10
  go_wp2_with (go_at_call 34; refine (awake17 _).mono ?_; rintro e w1 ⟨rfl, hb1⟩)
  go_ret
  exact ⟨rfl, hb1⟩
end Go.Proofs.Ytaifdkklijpjnaa
