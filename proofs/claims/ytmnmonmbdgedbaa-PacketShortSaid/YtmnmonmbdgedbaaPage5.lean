/- Layer 17 (page): page.Parse, walked. -/
import Derived.Test.YtmnmonmbdgedbaaPage4
namespace Go.Proofs.Ytmnmonmbdgedbaa
open Go.RowKit
set_option linter.unusedVariables false

theorem pg_want_ok {m : Rd} (s : List UInt8) (hm : m.Ok) : (m.want s).1.Ok := by
  unfold Rd.want
  split
  · split
    · exact hm.fail _ _
    · split
      · exact hm.fail _ _
      · rename_i h
        obtain ⟨h0, h1, h2, h3⟩ := hm
        rw [List.length_drop] at h
        exact ⟨by show m.nx + s.length ≤ m.t.length; omega, h1, h2, h3⟩
  · exact hm
theorem InAt.put {T : TypeId} {w : World} {b c j : Nat} {m : Rd} (h : InAt T w b m) (hne : b ≠ c) (v : Value) : InAt T (w.setCell ⟨c, j, none⟩ v) b m := (heap_set_other v hne).trans h
theorem Only.setNew {b c j : Nat} {w W : World} (h : Only b w W) (hc : w.heap.size ≤ c) (v : Value) : Only b w (W.setCell ⟨c, j, none⟩ v) :=
  ⟨h.os, h.tape, h.output, by have := h.size; simpa [World.setCell] using this, fun k hk hne => (heap_set_other v (by omega)).trans (h.block k hk hne)⟩
theorem Only.alloc {b : Nat} {w W : World} (h : Only b w W) (o : Obj) : Only b w (W.alloc o) :=
  ⟨h.os, h.tape, h.output, by have := h.size; simp; omega, fun k hk hne => (heap_alloc_old W o (Nat.lt_of_lt_of_le hk h.size)).trans (h.block k hk hne)⟩
theorem Only.below' {b : Nat} {w W W' : World} (h : Only b w W) (k : Below W.heap.size W W') : Only b w W' := h.trans (Only.of_below k)

def ParseSays (b : Nat) (m' : Rd) (p : Pg) (ok : Bool) (w : World) (e : Ending) (w' : World) : Prop := e = .returned (.tuple #[pgV p, .bool ok]) ∧ RdAt w' b m' ∧ Only b w w'

set_option maxHeartbeats 1000000 in
set_option maxRecDepth 100000 in
theorem parse_bad (b : Nat) (m : Rd) (w : World) (h : RdAt w b m) (hc : m.cd ≠ 0) : Calls Try.prog 135 #[.pointer (some ⟨b, 0, none⟩)] w (ParseSays b m zeroP false w) := by
  have FA := Lib.hid (fun w h => fault_any b m w h)
  have hlt := h.lt
  have R0 := Lib.hid h
  obtain ⟨c, hcc⟩ : ∃ c, c = m.cd := ⟨_, rfl⟩
  obtain ⟨q, hq⟩ : ∃ q, q = m.pl := ⟨_, rfl⟩
  rw [← hcc] at hc FA
  rw [← hq] at FA
  have BD := Lib.hid (fun w => bad_any c q w)
  rw [show (c != 0) = true by simpa using hc] at BD
  clear h hc hcc hq
  unfold ParseSays pgV pgR zeroP
  go_enter Try.func135, Try.ntmps135
  go_wp2_with (first | (go_at_call 56; (with_reducible refine (FA.out _ (R0.out.alloc _)).mono ?_); rintro e w1 ⟨rfl, hb1⟩; have K1 := Lib.hid hb1; clear hb1) | (go_at_call 16; (with_reducible refine (BD.out _).mono ?_); rintro e w2 ⟨rfl, hb2⟩; have K2 := Lib.hid (nextB K1.out hb2); have hz2 := block_below (at_a0 w _ _) K2.out; have c0 := cell_at (j := 0) hz2; have c1 := cell_at (j := 1) hz2; have c2 := cell_at (j := 2) hz2; have c3 := cell_at (j := 3) hz2; have c4 := cell_at (j := 4) hz2; have c5 := cell_at (j := 5) hz2; have f0 := free_at (j := 0) hz2; have f1 := free_at (j := 1) hz2; have f2 := free_at (j := 2) hz2; have f3 := free_at (j := 3) hz2; have f4 := free_at (j := 4) hz2; have f5 := free_at (j := 5) hz2; simp only [List.getElem?_toArray, List.getElem?_cons_zero, List.getElem?_cons_succ] at c0 c1 c2 c3 c4 c5; have HZ := Lib.hid hz2; clear hb2 hz2 K1))
  have hO : Only b w w2 := Only.of_below (below_a1 K2.out)
  refine end_cell_tmp rfl rfl rfl (store6 HZ.out rfl) Try.underlying66 rfl (by kernel_rfl) ⟨rfl, ?_, ?_⟩
  · have r2 := (R0.out.alloc (.cells #[.int .u8 0, .int .u64 0, .int .u32 0, .int .u32 0, .string ⟨#[]⟩, .string ⟨#[]⟩] 66)).below K2.out
    have hne : b ≠ w.heap.size := by omega
    exact (((((r2.put hne _).put hne _).put hne _).put hne _).put hne _).put hne _
  · exact (((((hO.setNew (Nat.le_refl _) _).setNew (Nat.le_refl _) _).setNew (Nat.le_refl _) _).setNew (Nat.le_refl _) _).setNew (Nat.le_refl _) _).setNew (Nat.le_refl _) _

set_option maxHeartbeats 1000000 in
set_option maxRecDepth 100000 in
theorem parse_none (b : Nat) (m : Rd) (w : World) (h : RdAt w b m) (hm : m.Ok) (hc : m.cd = 0) (hl : m.left = 0) : Calls Try.prog 135 #[.pointer (some ⟨b, 0, none⟩)] w (ParseSays b m zeroP false w) := by
  have FA := Lib.hid (fun w h => fault_any b m w h)
  have LE := Lib.hid (fun w h => left_any b m w h hm)
  have hlt := h.lt
  have R0 := Lib.hid h
  obtain ⟨q, hq⟩ : ∃ q, q = m.pl := ⟨_, rfl⟩
  rw [hc, ← hq] at FA
  rw [hl] at LE
  have BD := Lib.hid (fun w => bad_any 0 q w)
  rw [show ((0 : Int) != 0) = false by rfl] at BD
  clear h hc hq hl hm
  unfold ParseSays pgV pgR zeroP
  go_enter Try.func135, Try.ntmps135
  go_wp2_with (first | (go_at_call 56; (with_reducible refine (FA.out _ (R0.out.alloc _)).mono ?_); rintro e w1 ⟨rfl, hb1⟩; have K1 := Lib.hid hb1; have R1 := Lib.hid ((R0.out.alloc _).below hb1); clear hb1) | (go_at_call 16; (with_reducible refine (BD.out _).mono ?_); rintro e w2 ⟨rfl, hb2⟩; have K2 := Lib.hid (nextB K1.out hb2); have R2 := Lib.hid (R1.out.below hb2); clear hb2 K1 R1) | (go_at_call 99; (with_reducible refine (LE.out _ R2.out).mono ?_); rintro e w3 ⟨rfl, hb3⟩; have K3 := Lib.hid (nextB K2.out hb3); have R3 := Lib.hid (R2.out.below hb3); have hz2 := block_below (at_a0 w _ _) K3.out; have c0 := cell_at (j := 0) hz2; have c1 := cell_at (j := 1) hz2; have c2 := cell_at (j := 2) hz2; have c3 := cell_at (j := 3) hz2; have c4 := cell_at (j := 4) hz2; have c5 := cell_at (j := 5) hz2; have f0 := free_at (j := 0) hz2; have f1 := free_at (j := 1) hz2; have f2 := free_at (j := 2) hz2; have f3 := free_at (j := 3) hz2; have f4 := free_at (j := 4) hz2; have f5 := free_at (j := 5) hz2; simp only [List.getElem?_toArray, List.getElem?_cons_zero, List.getElem?_cons_succ] at c0 c1 c2 c3 c4 c5; have HZ := Lib.hid hz2; clear hb3 hz2 K2 R2))
  have hO : Only b w w3 := Only.of_below (below_a1 K3.out)
  refine end_cell_tmp rfl rfl rfl (store6 HZ.out rfl) Try.underlying66 rfl (by kernel_rfl) ⟨rfl, ?_, ?_⟩
  · have hne : b ≠ w.heap.size := by omega
    exact (((((R3.out.put hne _).put hne _).put hne _).put hne _).put hne _).put hne _
  · exact (((((hO.setNew (Nat.le_refl _) _).setNew (Nat.le_refl _) _).setNew (Nat.le_refl _) _).setNew (Nat.le_refl _) _).setNew (Nat.le_refl _) _).setNew (Nat.le_refl _) _

def CoreSays (b : Nat) (m : Rd) (p : Pg) (fo : Nat) (at6 : Int) (w : World) (e : Ending) (w' : World) : Prop :=
  if m.cd = 0 then (if (sumP p).toNat = fo then ParseSays b m p true w e w' else ParseSays b (m.fail 1 at6) zeroP false w e w') else ParseSays b m zeroP false w e w'
theorem core_yes {b : Nat} {m : Rd} {p : Pg} {fo : Nat} {at6 : Int} {w w' : World} {e : Ending} (h1 : m.cd = 0) (h2 : (sumP p).toNat = fo) (h : ParseSays b m p true w e w') : CoreSays b m p fo at6 w e w' := by
  unfold CoreSays; rw [if_pos h1, if_pos h2]; exact h
theorem core_no {b : Nat} {m : Rd} {p : Pg} {fo : Nat} {at6 : Int} {w w' : World} {e : Ending} (h1 : m.cd = 0) (h2 : ¬ (sumP p).toNat = fo) (h : ParseSays b (m.fail 1 at6) zeroP false w e w') : CoreSays b m p fo at6 w e w' := by
  unfold CoreSays; rw [if_pos h1, if_neg h2]; exact h
theorem core_bad {b : Nat} {m : Rd} {p : Pg} {fo : Nat} {at6 : Int} {w w' : World} {e : Ending} (h1 : ¬ m.cd = 0) (h : ParseSays b m zeroP false w e w') : CoreSays b m p fo at6 w e w' := by
  unfold CoreSays; rw [if_neg h1]; exact h

set_option maxHeartbeats 4000000 in
set_option maxRecDepth 100000 in
theorem parse_core (b : Nat) (m m1 m2 m3 m4 m5 m6 m7 m8 m9 m10 : Rd) (x1 x2 : Bool) (fl : UInt8) (po se nu fo n8 : Nat) (la bo : List UInt8) (at6 l0 : Int) (w : World) (h : RdAt w b m)
    (hc : m.cd = 0) (hl : (l0 == 0) = false) (LE : Hid (∀ w, RdAt w b m → Calls Try.prog 99 #[.pointer (some ⟨b, 0, none⟩)] w fun e w' => e = .returned (.int .i64 l0) ∧ Below w.heap.size w w'))
    (W1 : Hid (∀ w, RdAt w b m → Calls Try.prog 61 #[.pointer (some ⟨b, 0, none⟩), .string ⟨#[79, 103, 103, 83]⟩] w fun e w' => e = .returned (.bool x1) ∧ RdAt w' b m1 ∧ Only b w w'))
    (W2 : Hid (∀ w, RdAt w b m1 → Calls Try.prog 61 #[.pointer (some ⟨b, 0, none⟩), .string ⟨#[0]⟩] w fun e w' => e = .returned (.bool x2) ∧ RdAt w' b m2 ∧ Only b w w'))
    (C3 : Hid (∀ w, RdAt w b m2 → Calls Try.prog 93 #[.pointer (some ⟨b, 0, none⟩), .int .i64 1] w fun e w' => e = .returned (.int .u64 fl.toNat) ∧ RdAt w' b m3 ∧ Only b w w'))
    (C4 : Hid (∀ w, RdAt w b m3 → Calls Try.prog 145 #[.pointer (some ⟨b, 0, none⟩), .int .i64 8] w fun e w' => e = .returned (.int .u64 po) ∧ RdAt w' b m4 ∧ Only b w w'))
    (C5 : Hid (∀ w, RdAt w b m4 → Calls Try.prog 145 #[.pointer (some ⟨b, 0, none⟩), .int .i64 4] w fun e w' => e = .returned (.int .u64 se) ∧ RdAt w' b m5 ∧ Only b w w'))
    (C6 : Hid (∀ w, RdAt w b m5 → Calls Try.prog 145 #[.pointer (some ⟨b, 0, none⟩), .int .i64 4] w fun e w' => e = .returned (.int .u64 nu) ∧ RdAt w' b m6 ∧ Only b w w'))
    (C7 : Hid (∀ w, RdAt w b m6 → Calls Try.prog 145 #[.pointer (some ⟨b, 0, none⟩), .int .i64 4] w fun e w' => e = .returned (.int .u64 fo) ∧ RdAt w' b m7 ∧ Only b w w'))
    (C8 : Hid (∀ w, RdAt w b m7 → Calls Try.prog 93 #[.pointer (some ⟨b, 0, none⟩), .int .i64 1] w fun e w' => e = .returned (.int .u64 n8) ∧ RdAt w' b m8 ∧ Only b w w'))
    (C9 : Hid (∀ w, RdAt w b m8 → Calls Try.prog 54 #[.pointer (some ⟨b, 0, none⟩), .int .i64 n8] w fun e w' => e = .returned (.string ⟨la.toArray⟩) ∧ RdAt w' b m9 ∧ Only b w w'))
    (C10 : Hid (∀ w, RdAt w b m9 → Calls Try.prog 54 #[.pointer (some ⟨b, 0, none⟩), .int .i64 (lacesL la)] w fun e w' => e = .returned (.string ⟨bo.toArray⟩) ∧ RdAt w' b m10 ∧ Only b w w'))
    (AT : Hid (∀ w, RdAt w b m6 → Calls Try.prog 98 #[.pointer (some ⟨b, 0, none⟩)] w fun e w' => e = .returned (.int .i64 at6) ∧ w = w'))
    (TT : Hid (∀ w, Calls Try.prog 87 #[.string ⟨la.toArray⟩] w fun e w' => e = .returned (.int .i64 (lacesL la)) ∧ w = w'))
    (SU : Hid (∀ w, Calls Try.prog 143 #[pgV ⟨fl, po, se, nu, la, bo⟩] w fun e w' => e = .returned (.int .u32 (sumP ⟨fl, po, se, nu, la, bo⟩).toNat) ∧ Below w.heap.size w w'))
    (hpo : po < 18446744073709551616) (hse : se ≤ 4294967295) (hnu : nu ≤ 4294967295) (hfo : fo ≤ 4294967295) (hn8 : n8 ≤ 255) :
    Calls Try.prog 135 #[.pointer (some ⟨b, 0, none⟩)] w (CoreSays b m10 ⟨fl, po, se, nu, la, bo⟩ fo at6 w) := by
  have FA := Lib.hid (fun w h => fault_any b m w h)
  have hlt := h.lt
  have R0 := Lib.hid h
  obtain ⟨q, hq⟩ : ∃ q, q = m.pl := ⟨_, rfl⟩
  rw [hc, ← hq] at FA
  have BD := Lib.hid (fun w => bad_any 0 q w)
  rw [show ((0 : Int) != 0) = false by rfl] at BD
  have HPO := Lib.hid hpo
  have hfl := byte_le fl
  clear h hc hq hpo
  go_enter Try.func135, Try.ntmps135
  go_upto_region 3 with (first | (go_at_call 56; (with_reducible refine (FA.out _ (R0.out.alloc _)).mono ?_); rintro e w1 ⟨rfl, hb1⟩; have K1 := Lib.hid hb1; have R1 := Lib.hid ((R0.out.alloc _).below hb1); clear hb1) | (go_at_call 16; (with_reducible refine (BD.out _).mono ?_); rintro e w2 ⟨rfl, hb2⟩; have K2 := Lib.hid (nextB K1.out hb2); have R2 := Lib.hid (R1.out.below hb2); clear hb2 K1 R1) | (go_at_call 99; (with_reducible refine (LE.out _ R2.out).mono ?_); rintro e w3 ⟨rfl, hb3⟩; have K3 := Lib.hid (nextB K2.out hb3); have R3 := Lib.hid (R2.out.below hb3); clear hb3 K2 R2))
  have HZ := Lib.hid (block_below (at_a0 w _ _) K3.out)
  have HO := Lib.hid (Only.of_below (b := b) (below_a1 K3.out))
  generalize hrb : w.heap.size = rb at *
  clear K3 FA BD R0 LE
  go_upto_region 6 with (first | (go_at_call 61; (with_reducible refine (W1.out _ R3.out).mono ?_); rintro e w4 ⟨rfl, r4, o4⟩; have R4 := Lib.hid r4; have HZ4 := Lib.hid (block_only HZ.out o4 (by omega)); have HO4 := Lib.hid (HO.out.trans o4); clear r4 o4 R3 HZ HO) | (go_at_call 61; (with_reducible refine (W2.out _ R4.out).mono ?_); rintro e w5 ⟨rfl, r5, o5⟩; have R5 := Lib.hid r5; have HZ5 := Lib.hid (block_only HZ4.out o5 (by omega)); have HO5 := Lib.hid (HO4.out.trans o5); clear r5 o5 R4 HZ4 HO4))
  have P0 := Lib.hid (at_a0 w5 #[.int .u8 0, .int .u64 0, .int .u32 0, .int .u32 0, .string ⟨#[]⟩, .string ⟨#[]⟩] 66)
  have R0 := Lib.hid (R5.out.alloc (.cells #[.int .u8 0, .int .u64 0, .int .u32 0, .int .u32 0, .string ⟨#[]⟩, .string ⟨#[]⟩] 66))
  have O0 := Lib.hid (HO5.out.alloc (.cells #[.int .u8 0, .int .u64 0, .int .u32 0, .int .u32 0, .string ⟨#[]⟩, .string ⟨#[]⟩] 66))
  have Z0 := Lib.hid (block_below HZ5.out ((Below.refl _ _).alloc (Nat.le_refl _) (.cells #[.int .u8 0, .int .u64 0, .int .u32 0, .int .u32 0, .string ⟨#[]⟩, .string ⟨#[]⟩] 66)))
  have hlt5 := HO5.out.size
  have hz5 := (Array.getElem?_eq_some_iff.1 HZ5.out).1
  generalize w5.alloc (.cells #[.int .u8 0, .int .u64 0, .int .u32 0, .int .u32 0, .string ⟨#[]⟩, .string ⟨#[]⟩] 66) = v0 at *
  generalize w5.heap.size = pb at *
  have hne : b ≠ pb := by omega
  have hne' : pb ≠ b := by omega
  have hrb2 : rb ≠ b := by omega
  have hrp : rb ≠ pb := by omega
  have hpn : w.heap.size ≤ pb := hlt5
  have HRB := Lib.hid hrb
  clear hrb hlt5 R5 HZ5 HO5
  go_upto_region 14 with (first | (go_at_call 93; have _c := R0; (with_reducible refine (C3.out _ R0.out).mono ?_); rintro e v1 ⟨rfl, r1, o1⟩; have R1 := Lib.hid r1; have P1 := Lib.hid (show v1.heap[pb]? = some (.cells #[.int .u8 0, .int .u64 0, .int .u32 0, .int .u32 0, .string ⟨#[]⟩, .string ⟨#[]⟩] 66 (0, 0)) from block_only P0.out o1 hne'); have O1 := Lib.hid (O0.out.trans o1); have Z1 := Lib.hid (block_only Z0.out o1 hrb2); have d1 := cell_at (j := 0) P1.out; have g1 := free_at (j := 0) P1.out; simp only [List.getElem?_toArray, List.getElem?_cons_zero] at d1; clear r1 o1 R0 P0 O0 Z0) | (go_at_call 145; have _c := R1; (with_reducible refine (C4.out _ (R1.out.put hne _)).mono ?_); rintro e v2 ⟨rfl, r2, o2⟩; have R2 := Lib.hid r2; have P2 := Lib.hid (show v2.heap[pb]? = some (.cells #[.int .u8 fl.toNat, .int .u64 0, .int .u32 0, .int .u32 0, .string ⟨#[]⟩, .string ⟨#[]⟩] 66 (0, 0)) from block_only (setCell_at P1.out) o2 hne'); have O2 := Lib.hid ((O1.out.setNew hpn _).trans o2); have Z2 := Lib.hid (block_only ((heap_set_other _ hrp).trans Z1.out) o2 hrb2); have d2 := cell_at (j := 1) P2.out; have g2 := free_at (j := 1) P2.out; simp only [List.getElem?_toArray, List.getElem?_cons_zero, List.getElem?_cons_succ] at d2; clear r2 o2 R1 P1 O1 Z1) | (go_at_call 145; have _c := R2; (with_reducible refine (C5.out _ (R2.out.put hne _)).mono ?_); rintro e v3 ⟨rfl, r3, o3⟩; have R3 := Lib.hid r3; have P3 := Lib.hid (show v3.heap[pb]? = some (.cells #[.int .u8 fl.toNat, .int .u64 po, .int .u32 0, .int .u32 0, .string ⟨#[]⟩, .string ⟨#[]⟩] 66 (0, 0)) from block_only (setCell_at P2.out) o3 hne'); have O3 := Lib.hid ((O2.out.setNew hpn _).trans o3); have Z3 := Lib.hid (block_only ((heap_set_other _ hrp).trans Z2.out) o3 hrb2); have d3 := cell_at (j := 2) P3.out; have g3 := free_at (j := 2) P3.out; simp only [List.getElem?_toArray, List.getElem?_cons_zero, List.getElem?_cons_succ] at d3; clear r3 o3 R2 P2 O2 Z2) | (go_at_call 145; have _c := R3; (with_reducible refine (C6.out _ (R3.out.put hne _)).mono ?_); rintro e v4 ⟨rfl, r4, o4⟩; have R4 := Lib.hid r4; have P4 := Lib.hid (show v4.heap[pb]? = some (.cells #[.int .u8 fl.toNat, .int .u64 po, .int .u32 se, .int .u32 0, .string ⟨#[]⟩, .string ⟨#[]⟩] 66 (0, 0)) from block_only (setCell_at P3.out) o4 hne'); have O4 := Lib.hid ((O3.out.setNew hpn _).trans o4); have Z4 := Lib.hid (block_only ((heap_set_other _ hrp).trans Z3.out) o4 hrb2); have d4 := cell_at (j := 3) P4.out; have g4 := free_at (j := 3) P4.out; simp only [List.getElem?_toArray, List.getElem?_cons_zero, List.getElem?_cons_succ] at d4; clear r4 o4 R3 P3 O3 Z3) | (go_at_call 98; (with_reducible refine (AT.out _ (R4.out.put hne _)).mono ?_); rintro e va ⟨rfl, rfl⟩) | (go_at_call 145; have _c := R4; (with_reducible refine (C7.out _ (R4.out.put hne _)).mono ?_); rintro e v5 ⟨rfl, r5, o5⟩; have R5 := Lib.hid r5; have P5 := Lib.hid (show v5.heap[pb]? = some (.cells #[.int .u8 fl.toNat, .int .u64 po, .int .u32 se, .int .u32 nu, .string ⟨#[]⟩, .string ⟨#[]⟩] 66 (0, 0)) from block_only (setCell_at P4.out) o5 hne'); have O5 := Lib.hid ((O4.out.setNew hpn _).trans o5); have Z5 := Lib.hid (block_only ((heap_set_other _ hrp).trans Z4.out) o5 hrb2); clear r5 o5 R4 P4 O4 Z4) | (go_at_call 93; have _c := R5; (with_reducible refine (C8.out _ R5.out).mono ?_); rintro e v6 ⟨rfl, r6, o6⟩; have R6 := Lib.hid r6; have P6 := Lib.hid (show v6.heap[pb]? = some (.cells #[.int .u8 fl.toNat, .int .u64 po, .int .u32 se, .int .u32 nu, .string ⟨#[]⟩, .string ⟨#[]⟩] 66 (0, 0)) from block_only P5.out o6 hne'); have O6 := Lib.hid (O5.out.trans o6); have Z6 := Lib.hid (block_only Z5.out o6 hrb2); clear r6 o6 R5 P5 O5 Z5) | (go_at_call 54; have _c := R6; (with_reducible refine (C9.out _ R6.out).mono ?_); rintro e v7 ⟨rfl, r7, o7⟩; have R7 := Lib.hid r7; have P7 := Lib.hid (show v7.heap[pb]? = some (.cells #[.int .u8 fl.toNat, .int .u64 po, .int .u32 se, .int .u32 nu, .string ⟨#[]⟩, .string ⟨#[]⟩] 66 (0, 0)) from block_only P6.out o7 hne'); have O7 := Lib.hid (O6.out.trans o7); have Z7 := Lib.hid (block_only Z6.out o7 hrb2); have d7 := cell_at (j := 4) P7.out; have g7 := free_at (j := 4) P7.out; simp only [List.getElem?_toArray, List.getElem?_cons_zero, List.getElem?_cons_succ] at d7; clear r7 o7 R6 P6 O6 Z6) | (go_at_call 87; (with_reducible refine (TT.out _).mono ?_); rintro e va ⟨rfl, rfl⟩) | (go_at_call 54; have _c := R7; (with_reducible refine (C10.out _ (R7.out.put hne _)).mono ?_); rintro e v8 ⟨rfl, r8, o8⟩; have R8 := Lib.hid r8; have P8 := Lib.hid (show v8.heap[pb]? = some (.cells #[.int .u8 fl.toNat, .int .u64 po, .int .u32 se, .int .u32 nu, .string ⟨la.toArray⟩, .string ⟨#[]⟩] 66 (0, 0)) from block_only (setCell_at P7.out) o8 hne'); have O8 := Lib.hid ((O7.out.setNew hpn _).trans o8); have Z8 := Lib.hid (block_only ((heap_set_other _ hrp).trans Z7.out) o8 hrb2); have d8 := cell_at (j := 5) P8.out; have g8 := free_at (j := 5) P8.out; simp only [List.getElem?_toArray, List.getElem?_cons_zero, List.getElem?_cons_succ] at d8; clear r8 o8 R7 P7 O7 Z7))
  have R9 := Lib.hid (R8.out.put hne (.string ⟨bo.toArray⟩) (j := 5))
  have P9 := Lib.hid (show (v8.setCell ⟨pb, 5, none⟩ (.string ⟨bo.toArray⟩)).heap[pb]? = some (.cells #[.int .u8 fl.toNat, .int .u64 po, .int .u32 se, .int .u32 nu, .string ⟨la.toArray⟩, .string ⟨bo.toArray⟩] 66 (0, 0)) from setCell_at P8.out)
  have O9 := Lib.hid (O8.out.setNew hpn (.string ⟨bo.toArray⟩) (j := 5))
  have Z9 := Lib.hid ((heap_set_other (.string ⟨bo.toArray⟩) hrp (j := 5)).trans Z8.out)
  generalize v8.setCell ⟨pb, 5, none⟩ (.string ⟨bo.toArray⟩) = V at *
  clear R8 P8 O8 Z8 d8 g8 d7 g7 d4 g4 d3 g3 d2 g2 d1 g1 C3 C4 C5 C6 C7 C8 C9 C10 W1 W2 AT TT
  obtain ⟨c10, hc10⟩ : ∃ c, c = m10.cd := ⟨_, rfl⟩
  obtain ⟨q10, hq10⟩ : ∃ c, c = m10.pl := ⟨_, rfl⟩
  have FA := Lib.hid (fun w h => fault_any b m10 w h)
  have HFAIL := Lib.hid (fun w h => fail_any b m10 1 at6 w h)
  rw [← hc10, ← hq10] at FA
  have BD := Lib.hid (fun w => bad_any c10 q10 w)
  have SU1 := SU.out
  simp only [pgV, pgR] at SU1
  have SU := Lib.hid SU1
  have HC10 := Lib.hid hc10
  clear SU1 hc10 hq10
  have hrn : w.heap.size ≤ rb := by rw [HRB.out]; exact Nat.le_refl _
  have hbr : b ≠ rb := fun e => hrb2 e.symm
  obtain ⟨z, hzz⟩ : ∃ z, z = sumP ⟨fl, po, se, nu, la, bo⟩ := ⟨_, rfl⟩
  rw [← hzz] at SU
  have HZZ := Lib.hid hzz
  clear hzz
  by_cases hcd : c10 = 0
  · have HCD := Lib.hid (HC10.out.symm.trans hcd)
    subst hcd
    rw [show ((0 : Int) != 0) = false by rfl] at BD
    go_upto_region 16 with (first | (go_at_call 56; (with_reducible refine (FA.out _ R9.out).mono ?_); rintro e w10 ⟨rfl, hb10⟩; have K10 := Lib.hid hb10; clear hb10) | (go_at_call 16; (with_reducible refine (BD.out _).mono ?_); rintro e w11 ⟨rfl, hb11⟩; have K11 := Lib.hid (nextB K10.out hb11); clear hb11 K10))
    have P11 := Lib.hid (block_below P9.out K11.out)
    have Z11 := Lib.hid (block_below Z9.out K11.out)
    have R11 := Lib.hid (R9.out.below K11.out)
    have O11 := Lib.hid (O9.out.below' K11.out)
    clear P9 Z9 R9 O9 K11 BD FA
    have pc0 := cell_at (j := 0) P11.out; have pc1 := cell_at (j := 1) P11.out; have pc2 := cell_at (j := 2) P11.out; have pc3 := cell_at (j := 3) P11.out; have pc4 := cell_at (j := 4) P11.out; have pc5 := cell_at (j := 5) P11.out; simp only [List.getElem?_toArray, List.getElem?_cons_zero, List.getElem?_cons_succ] at pc0 pc1 pc2 pc3 pc4 pc5
    by_cases hz : z.toNat = fo
    · have HS := Lib.hid ((congrArg BitVec.toNat HZZ.out).symm.trans hz)
      have t1 : ((z.toNat : Int) != (fo : Int)) = false := by simp; omega
      clear hz
      go_wp2_with (go_at_call 143; (with_reducible refine (SU.out _).mono ?_); rintro e w12 ⟨rfl, hb12⟩; have P12 := Lib.hid (block_below P11.out hb12); have Z12 := Lib.hid (block_below Z11.out hb12); have R12 := Lib.hid (R11.out.below hb12); have O12 := Lib.hid (O11.out.below' hb12); have pd0 := cell_at (j := 0) P12.out; have pd1 := cell_at (j := 1) P12.out; have pd2 := cell_at (j := 2) P12.out; have pd3 := cell_at (j := 3) P12.out; have pd4 := cell_at (j := 4) P12.out; have pd5 := cell_at (j := 5) P12.out; simp only [List.getElem?_toArray, List.getElem?_cons_zero, List.getElem?_cons_succ] at pd0 pd1 pd2 pd3 pd4 pd5; have zc0 := cell_at (j := 0) Z12.out; have zc1 := cell_at (j := 1) Z12.out; have zc2 := cell_at (j := 2) Z12.out; have zc3 := cell_at (j := 3) Z12.out; have zc4 := cell_at (j := 4) Z12.out; have zc5 := cell_at (j := 5) Z12.out; have zcf0 := free_at (j := 0) Z12.out; have zcf1 := free_at (j := 1) Z12.out; have zcf2 := free_at (j := 2) Z12.out; have zcf3 := free_at (j := 3) Z12.out; have zcf4 := free_at (j := 4) Z12.out; have zcf5 := free_at (j := 5) Z12.out; simp only [List.getElem?_toArray, List.getElem?_cons_zero, List.getElem?_cons_succ] at zc0 zc1 zc2 zc3 zc4 zc5; clear hb12)
      refine end_cell_tmp rfl rfl rfl (store6 Z12.out rfl) Try.underlying66 rfl (by kernel_rfl) (core_yes HCD.out HS.out ⟨rfl, ?_, ?_⟩)
      · exact (((((R12.out.put hbr _).put hbr _).put hbr _).put hbr _).put hbr _).put hbr _
      · exact (((((O12.out.setNew hrn _).setNew hrn _).setNew hrn _).setNew hrn _).setNew hrn _).setNew hrn _
    · have HS := Lib.hid (show ¬ (sumP ⟨fl, po, se, nu, la, bo⟩).toNat = fo by rw [← HZZ.out]; exact hz)
      have t1 : ((z.toNat : Int) != (fo : Int)) = true := by simp; omega
      clear hz
      go_wp2_with (first | (go_at_call 143; (with_reducible refine (SU.out _).mono ?_); rintro e w12 ⟨rfl, hb12⟩; have Z12 := Lib.hid (block_below Z11.out hb12); have R12 := Lib.hid (R11.out.below hb12); have O12 := Lib.hid (O11.out.below' hb12); clear hb12) | (go_at_call 94; (with_reducible refine (HFAIL.out _ R12.out).mono ?_); rintro e w13 ⟨rfl, r13, o13⟩; have Z13 := Lib.hid (block_only Z12.out o13 hrb2); have R13 := Lib.hid r13; have O13 := Lib.hid (O12.out.trans o13); have zc0 := cell_at (j := 0) Z13.out; have zc1 := cell_at (j := 1) Z13.out; have zc2 := cell_at (j := 2) Z13.out; have zc3 := cell_at (j := 3) Z13.out; have zc4 := cell_at (j := 4) Z13.out; have zc5 := cell_at (j := 5) Z13.out; have zcf0 := free_at (j := 0) Z13.out; have zcf1 := free_at (j := 1) Z13.out; have zcf2 := free_at (j := 2) Z13.out; have zcf3 := free_at (j := 3) Z13.out; have zcf4 := free_at (j := 4) Z13.out; have zcf5 := free_at (j := 5) Z13.out; simp only [List.getElem?_toArray, List.getElem?_cons_zero, List.getElem?_cons_succ] at zc0 zc1 zc2 zc3 zc4 zc5; clear r13 o13))
      refine end_cell_tmp rfl rfl rfl (store6 Z13.out rfl) Try.underlying66 rfl (by kernel_rfl) (core_no HCD.out HS.out ⟨rfl, ?_, ?_⟩)
      · exact (((((R13.out.put hbr _).put hbr _).put hbr _).put hbr _).put hbr _).put hbr _
      · exact (((((O13.out.setNew hrn _).setNew hrn _).setNew hrn _).setNew hrn _).setNew hrn _).setNew hrn _
  · rw [show (c10 != 0) = true by simpa using hcd] at BD
    have HCD := Lib.hid (show ¬ m10.cd = 0 by rw [← HC10.out]; exact hcd)
    clear hcd
    go_wp2_with (first | (go_at_call 56; (with_reducible refine (FA.out _ R9.out).mono ?_); rintro e w10 ⟨rfl, hb10⟩; have K10 := Lib.hid hb10; clear hb10) | (go_at_call 16; (with_reducible refine (BD.out _).mono ?_); rintro e w11 ⟨rfl, hb11⟩; have K11 := Lib.hid (nextB K10.out hb11); have Z11 := Lib.hid (block_below Z9.out K11.out); have zc0 := cell_at (j := 0) Z11.out; have zc1 := cell_at (j := 1) Z11.out; have zc2 := cell_at (j := 2) Z11.out; have zc3 := cell_at (j := 3) Z11.out; have zc4 := cell_at (j := 4) Z11.out; have zc5 := cell_at (j := 5) Z11.out; have zcf0 := free_at (j := 0) Z11.out; have zcf1 := free_at (j := 1) Z11.out; have zcf2 := free_at (j := 2) Z11.out; have zcf3 := free_at (j := 3) Z11.out; have zcf4 := free_at (j := 4) Z11.out; have zcf5 := free_at (j := 5) Z11.out; simp only [List.getElem?_toArray, List.getElem?_cons_zero, List.getElem?_cons_succ] at zc0 zc1 zc2 zc3 zc4 zc5; clear hb11 K10))
    refine end_cell_tmp rfl rfl rfl (store6 Z11.out rfl) Try.underlying66 rfl (by kernel_rfl) (core_bad HCD.out ⟨rfl, ?_, ?_⟩)
    · exact ((((((R9.out.below K11.out).put hbr _).put hbr _).put hbr _).put hbr _).put hbr _).put hbr _
    · exact ((((((O9.out.below' K11.out).setNew hrn _).setNew hrn _).setNew hrn _).setNew hrn _).setNew hrn _).setNew hrn _

theorem numL_le1 (l : List UInt8) (h : l.length ≤ 1) : numL l ≤ 255 := by
  have h1 := numL_bound l
  have h2 : (256 : Nat) ^ l.length ≤ 256 ^ 1 := Nat.pow_le_pow_right (by decide) h
  omega
theorem numL_le4 (l : List UInt8) (h : l.length ≤ 4) : numL l ≤ 4294967295 := by
  have h1 := numL_bound l
  have h2 : (256 : Nat) ^ l.length ≤ 256 ^ 4 := Nat.pow_le_pow_right (by decide) h
  omega
theorem numL_le8 (l : List UInt8) (h : l.length ≤ 8) : numL l < 18446744073709551616 := by
  have h1 := numL_bound l
  have h2 : (256 : Nat) ^ l.length ≤ 256 ^ 8 := Nat.pow_le_pow_right (by decide) h
  omega
theorem parse_any (b : Nat) (m : Rd) (w : World) (h : RdAt w b m) (hm : m.Ok) : Calls Try.prog 135 #[.pointer (some ⟨b, 0, none⟩)] w (ParseSays b (pgParse m).1 (pgParse m).2.1 (pgParse m).2.2 w) := by
  unfold pgParse
  by_cases hc : m.cd = 0
  rotate_left
  · rw [if_neg (fun x => hc x.1)]
    exact parse_bad b m w h hc
  by_cases hl : m.left = 0
  · rw [if_neg (fun x => x.2 hl)]
    exact parse_none b m w h hm hc hl
  rw [if_pos ⟨hc, hl⟩]
  have o1 := pg_want_ok [79, 103, 103, 83] hm
  have o2 := pg_want_ok [0] o1
  have k := parse_core b m (m.want [79, 103, 103, 83]).1 ((m.want [79, 103, 103, 83]).1.want [0]).1
  unfold pgMain
  simp only
  generalize hm1 : (m.want [79, 103, 103, 83]).1 = m1 at *
  generalize hm2 : (m1.want [0]).1 = m2 at *
  have o3 := take_ok ((1 : Nat) : Int) o2
  have l3 := take_len m2 ((1 : Nat) : Int)
  generalize ha3 : m2.take ((1 : Nat) : Int) = a3 at *
  have o4 := take_ok ((8 : Nat) : Int) o3
  have l4 := take_len a3.1 ((8 : Nat) : Int)
  generalize ha4 : a3.1.take ((8 : Nat) : Int) = a4 at *
  have o5 := take_ok ((4 : Nat) : Int) o4
  have l5 := take_len a4.1 ((4 : Nat) : Int)
  generalize ha5 : a4.1.take ((4 : Nat) : Int) = a5 at *
  have o6 := take_ok ((4 : Nat) : Int) o5
  have l6 := take_len a5.1 ((4 : Nat) : Int)
  generalize ha6 : a5.1.take ((4 : Nat) : Int) = a6 at *
  have o7 := take_ok ((4 : Nat) : Int) o6
  have l7 := take_len a6.1 ((4 : Nat) : Int)
  generalize ha7 : a6.1.take ((4 : Nat) : Int) = a7 at *
  have o8 := take_ok ((1 : Nat) : Int) o7
  have l8 := take_len a7.1 ((1 : Nat) : Int)
  generalize ha8 : a7.1.take ((1 : Nat) : Int) = a8 at *
  have o9 := take_ok ((numL a8.2 : Nat) : Int) o8
  have l9 := take_len a8.1 ((numL a8.2 : Nat) : Int)
  generalize ha9 : a8.1.take ((numL a8.2 : Nat) : Int) = a9 at *
  have l10 := take_len a9.1 ((lacesL a9.2 : Nat) : Int)
  generalize ha10 : a9.1.take ((lacesL a9.2 : Nat) : Int) = a10 at *
  rw [Int.toNat_natCast] at l3 l4 l5 l6 l7 l8 l9 l10
  have n3 := numL_le1 _ l3
  have n8 := numL_le1 _ l8
  have b4 := numL_le8 a4.2.reverse (by rw [List.length_reverse]; exact l4)
  have b5 := numL_le4 a5.2.reverse (by rw [List.length_reverse]; exact l5)
  have b6 := numL_le4 a6.2.reverse (by rw [List.length_reverse]; exact l6)
  have b7 := numL_le4 a7.2.reverse (by rw [List.length_reverse]; exact l7)
  have f3 : (UInt8.ofNat (numL a3.2)).toNat = numL a3.2 := by rw [UInt8.toNat_ofNat']; omega
  have hbo : a10.2.length ≤ 1000000 := by
    have := laces_le a9.2 a9.2.length (Nat.le_refl _)
    rw [List.take_length] at this
    omega
  have k := k a3.1 a4.1 a5.1 a6.1 a7.1 a8.1 a9.1 a10.1 (m.want [79, 103, 103, 83]).2 (m1.want [0]).2 (UInt8.ofNat (numL a3.2)) (numL a4.2.reverse) (numL a5.2.reverse) (numL a6.2.reverse) (numL a7.2.reverse) (numL a8.2) a9.2 a10.2 (a6.1.bs + a6.1.nx) m.left w h hc (by simpa using hl)
    (Lib.hid fun w h => left_any b m w h hm)
    (Lib.hid fun w h => by have := want_any b m [79, 103, 103, 83] w h hm (by decide); rw [hm1] at this; exact this)
    (Lib.hid fun w h => by have := want_any b m1 [0] w h o1 (by decide); rw [hm2] at this; exact this)
    (Lib.hid fun w h => by have := inbig_any b m2 1 1 w h o2 (Lib.hid (by decide)); rw [ha3] at this; rw [f3]; exact this)
    (Lib.hid fun w h => by have := insmall_any b a3.1 8 8 w h o3 (Lib.hid (by decide)); rw [ha4] at this; exact this)
    (Lib.hid fun w h => by have := insmall_any b a4.1 4 4 w h o4 (Lib.hid (by decide)); rw [ha5] at this; exact this)
    (Lib.hid fun w h => by have := insmall_any b a5.1 4 4 w h o5 (Lib.hid (by decide)); rw [ha6] at this; exact this)
    (Lib.hid fun w h => by have := insmall_any b a6.1 4 4 w h o6 (Lib.hid (by decide)); rw [ha7] at this; exact this)
    (Lib.hid fun w h => by have := inbig_any b a7.1 1 1 w h o7 (Lib.hid (by decide)); rw [ha8] at this; exact this)
    (Lib.hid fun w h => by have := take_any b a8.1 (numL a8.2 : Nat) w h o8; rw [ha9] at this; exact this)
    (Lib.hid fun w h => by have := take_any b a9.1 (lacesL a9.2 : Nat) w h o9; rw [ha10] at this; exact this)
    (Lib.hid fun w h => at_any b a6.1 w h o6)
    (Lib.hid fun w => total_any a9.2 w (by omega))
    (Lib.hid fun w => psum_any ⟨UInt8.ofNat (numL a3.2), numL a4.2.reverse, numL a5.2.reverse, numL a6.2.reverse, a9.2, a10.2⟩ w ⟨b4, by show numL a5.2.reverse < _; omega, by show numL a6.2.reverse < _; omega⟩ (by show a9.2.length ≤ _; omega) hbo)
    b4 b5 b6 b7 n8
  refine k.mono fun e w' hk => ?_
  unfold CoreSays at hk
  by_cases h1 : a10.1.cd = 0
  · rw [if_pos h1] at hk ⊢
    by_cases h2 : (sumP ⟨UInt8.ofNat (numL a3.2), numL a4.2.reverse, numL a5.2.reverse, numL a6.2.reverse, a9.2, a10.2⟩).toNat = numL a7.2.reverse
    · rw [if_pos h2] at hk ⊢
      exact hk
    · rw [if_neg h2] at hk ⊢
      exact hk
  · rw [if_neg h1] at hk ⊢
    exact hk
end Go.Proofs.Ytmnmonmbdgedbaa
