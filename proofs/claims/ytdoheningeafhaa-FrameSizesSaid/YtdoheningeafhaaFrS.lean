/- Layer 13 (frame): the walk of the statement FrameSizes. -/
import Derived.Test.YtdoheningeafhaaFrC
import Derived.Deep.QuietTactic
import Derived.BigQuiet
namespace Go.Proofs.Ytdoheningeafhaa
open Go.RowKit
set_option linter.unusedVariables false
set_option linter.unusedSimpArgs false

theorem fr_belowN {B : Nat} {w w' : World} (h : Below B w w') (n : Nat) : Below B w (w'.drewN n) := ⟨h.os, h.tape, h.output, h.size, h.block⟩
theorem or3 (a b c : UInt8) : bits BinOp.or IntKind.i64 (bits BinOp.or IntKind.i64 ((a.toNat : Int) * 65536) ((b.toNat : Int) * 256)) (c.toNat : Int) = (((a.toNat * 256 + b.toNat) * 256 + c.toNat : Nat) : Int) := by
  have ha := UInt8.toNat_lt a
  have hb := UInt8.toNat_lt b
  have hc := UInt8.toNat_lt c
  have h1 := i64_or_nat (a.toNat * 65536) (b.toNat * 256) (by omega) (by omega)
  rw [nat_join 16 (a.toNat * 65536) (b.toNat * 256) (by omega) (by omega)] at h1
  have h2 := i64_or_nat (a.toNat * 65536 + b.toNat * 256) c.toNat (by omega) (by omega)
  rw [nat_join 8 (a.toNat * 65536 + b.toNat * 256) c.toNat (by omega) (by omega)] at h2
  rw [show ((a.toNat : Int) * 65536) = ((a.toNat * 65536 : Nat) : Int) by simp, show ((b.toNat : Int) * 256) = ((b.toNat * 256 : Nat) : Int) by simp, h1, h2]
  omega
theorem or4 (a b c d : UInt8) : bits BinOp.or IntKind.i64 (bits BinOp.or IntKind.i64 (bits BinOp.or IntKind.i64 ((a.toNat : Int) * 16777216) ((b.toNat : Int) * 65536)) ((c.toNat : Int) * 256)) (d.toNat : Int) = ((((a.toNat * 256 + b.toNat) * 256 + c.toNat) * 256 + d.toNat : Nat) : Int) := by
  have ha := UInt8.toNat_lt a
  have hb := UInt8.toNat_lt b
  have hc := UInt8.toNat_lt c
  have hd := UInt8.toNat_lt d
  have h1 := i64_or_nat (a.toNat * 16777216) (b.toNat * 65536) (by omega) (by omega)
  rw [nat_join 24 (a.toNat * 16777216) (b.toNat * 65536) (by omega) (by omega)] at h1
  have h2 := i64_or_nat (a.toNat * 16777216 + b.toNat * 65536) (c.toNat * 256) (by omega) (by omega)
  rw [nat_join 16 (a.toNat * 16777216 + b.toNat * 65536) (c.toNat * 256) (by omega) (by omega)] at h2
  have h3 := i64_or_nat (a.toNat * 16777216 + b.toNat * 65536 + c.toNat * 256) d.toNat (by omega) (by omega)
  rw [nat_join 8 (a.toNat * 16777216 + b.toNat * 65536 + c.toNat * 256) d.toNat (by omega) (by omega)] at h3
  rw [show ((a.toNat : Int) * 16777216) = ((a.toNat * 16777216 : Nat) : Int) by simp, show ((b.toNat : Int) * 65536) = ((b.toNat * 65536 : Nat) : Int) by simp, show ((c.toNat : Int) * 256) = ((c.toNat * 256 : Nat) : Int) by simp, h1, h2, h3]
  omega
theorem or7 (a b c d : UInt8) (ha : a.toNat < 128) (hb : b.toNat < 128) (hc : c.toNat < 128) (hd : d.toNat < 128) : bits BinOp.or IntKind.i64 (bits BinOp.or IntKind.i64 (bits BinOp.or IntKind.i64 ((a.toNat : Int) * 2097152) ((b.toNat : Int) * 16384)) ((c.toNat : Int) * 128)) (d.toNat : Int) = ((((a.toNat * 128 + b.toNat) * 128 + c.toNat) * 128 + d.toNat : Nat) : Int) := by
  have h1 := i64_or_nat (a.toNat * 2097152) (b.toNat * 16384) (by omega) (by omega)
  rw [nat_join 21 (a.toNat * 2097152) (b.toNat * 16384) (by omega) (by omega)] at h1
  have h2 := i64_or_nat (a.toNat * 2097152 + b.toNat * 16384) (c.toNat * 128) (by omega) (by omega)
  rw [nat_join 14 (a.toNat * 2097152 + b.toNat * 16384) (c.toNat * 128) (by omega) (by omega)] at h2
  have h3 := i64_or_nat (a.toNat * 2097152 + b.toNat * 16384 + c.toNat * 128) d.toNat (by omega) (by omega)
  rw [nat_join 7 (a.toNat * 2097152 + b.toNat * 16384 + c.toNat * 128) d.toNat (by omega) (by omega)] at h3
  rw [show ((a.toNat : Int) * 2097152) = ((a.toNat * 2097152 : Nat) : Int) by simp, show ((b.toNat : Int) * 16384) = ((b.toNat * 16384 : Nat) : Int) by simp, show ((c.toNat : Int) * 128) = ((c.toNat * 128 : Nat) : Int) by simp, h1, h2, h3]
  omega
theorem orB (a b : UInt8) : bits .or .u8 (a.toNat : Int) (b.toNat : Int) = ((a ||| b).toNat : Int) := by
  have ha := UInt8.toNat_lt a
  have hb := UInt8.toNat_lt b
  have h := UInt8.toNat_lt (a ||| b)
  have e : (BitVec.ofInt IntKind.u8.bits (a.toNat : Int) ||| BitVec.ofInt IntKind.u8.bits (b.toNat : Int)).toNat = (a ||| b).toNat := by
    rw [BitVec.toNat_or, UInt8.toNat_or]
    show (BitVec.ofInt 8 (a.toNat : Int)).toNat ||| (BitVec.ofInt 8 (b.toNat : Int)).toNat = _
    rw [BitVec.ofInt_natCast, BitVec.ofInt_natCast, BitVec.toNat_ofNat, BitVec.toNat_ofNat, Nat.mod_eq_of_lt ha, Nat.mod_eq_of_lt hb]
  simp only [bits, e]
  generalize (a ||| b).toNat = z at *
  simp only [IntKind.wrap, IntKind.bits, IntKind.signed]
  simp
  omega
theorem or_low (a b : UInt8) (ha : a.toNat < 128) (hb : b.toNat < 128) : (a ||| b).toNat < 128 := by
  rw [UInt8.toNat_or]
  exact Nat.or_lt_two_pow (n := 7) ha hb

set_option maxRecDepth 100000 in
theorem fsizes_over (v : Int) (f : Fr) (w : World) (h : (1000 : Int) < f.bo.length ∨ (100 : Int) < f.id.length) :
    Calls Try.prog 6 #[.int .i64 v, frV f] w fun e w' => e = .returned (.bool true) ∧ Below w.heap.size w w' := by
  unfold frV frR
  by_cases h1 : (1000 : Int) < f.bo.length
  · go_enter Try.func6, Try.ntmps6
    go_wp2_with (go_at_call 26; refine (awake13' _).mono ?_; rintro e w1 ⟨rfl, hb1⟩)
    go_ret
    exact ⟨rfl, below_a1 hb1⟩
  · have h2 : (100 : Int) < f.id.length := h.resolve_left h1
    clear h
    go_enter Try.func6, Try.ntmps6
    go_wp2_with (go_at_call 26; refine (awake13' _).mono ?_; rintro e w1 ⟨rfl, hb1⟩)
    go_ret
    exact ⟨rfl, below_a1 hb1⟩
set_option maxHeartbeats 4000000 in
set_option maxRecDepth 100000 in
theorem fsizes_bad (v : Int) (id : List UInt8) (st fm gr : UInt8) (bo : List UInt8) (pl c : Int) (s : List UInt8) (w : World) (h1 : ¬ (1000 : Int) < bo.length) (h2 : ¬ (100 : Int) < id.length) (hc : c ≠ 0)
    (PR : Hid (∀ w, Calls Try.prog 39 #[.agg #[.string ⟨id.toArray⟩, .int .u8 st.toNat, .int .u8 fm.toNat, .int .u8 gr.toNat, .string ⟨bo.toArray⟩, .int .i64 pl], .int .i64 v] w fun e w' => e = .returned (.tuple #[.string ⟨s.toArray⟩, .agg #[.int .i64 c, .int .i64 0]]) ∧ Below w.heap.size w w')) :
    Calls Try.prog 6 #[.int .i64 v, .agg #[.string ⟨id.toArray⟩, .int .u8 st.toNat, .int .u8 fm.toNat, .int .u8 gr.toNat, .string ⟨bo.toArray⟩, .int .i64 pl]] w fun e w' => e = .returned (.bool true) ∧ Below w.heap.size w w' := by
  have BD := Lib.hid (fun w => bad_any c 0 w)
  rw [show (c != 0) = true by simpa using hc] at BD
  clear hc
  go_enter Try.func6, Try.ntmps6
  go_wp2_with (first | (go_at_call 39; (with_reducible refine (PR.out _).mono ?_); rintro e w1 ⟨rfl, hb1⟩; have K := Lib.hid (below_a1 hb1); clear hb1) | (go_at_call 21; (with_reducible refine (BD.out _).mono ?_); rintro e w2 ⟨rfl, hb2⟩; replace K := Lib.hid (nextB K.out (below_a1 hb2)); clear hb2) | (go_at_call 26; (with_reducible refine (awake13' _).mono ?_); rintro e w3 ⟨rfl, hb3⟩; replace K := Lib.hid (nextB K.out (hb3)); clear hb3))
  go_ret
  exact ⟨rfl, K.out⟩

set_option maxHeartbeats 4000000 in
set_option maxRecDepth 100000 in
theorem fsizes_2 (id : List UInt8) (st fm gr : UInt8) (bo : List UInt8) (pl : Int) (s : List UInt8) (w : World) (h1 : ¬ (1000 : Int) < bo.length) (h2 : ¬ (100 : Int) < id.length)
    (hs0 : 6 ≤ s.length) (hs1 : s.length ≤ 5000) (N : Nat) (HN : Hid ((s[3].toNat * 256 + s[4].toNat) * 256 + s[5].toNat = N)) (hN : s.length = 6 + N)
    (PR : Hid (∀ w, Calls Try.prog 39 #[.agg #[.string ⟨id.toArray⟩, .int .u8 st.toNat, .int .u8 fm.toNat, .int .u8 gr.toNat, .string ⟨bo.toArray⟩, .int .i64 pl], .int .i64 2] w fun e w' => e = .returned (.tuple #[.string ⟨s.toArray⟩, .agg #[.int .i64 0, .int .i64 0]]) ∧ Below w.heap.size w w'))
    (SP : Hid (∀ w, Calls Try.prog 33 #[.agg #[.string ⟨id.toArray⟩, .int .u8 st.toNat, .int .u8 fm.toNat], .int .i64 2] w fun e w' => e = .returned (.bool false) ∧ Below w.heap.size w w')) :
    Calls Try.prog 6 #[.int .i64 2, .agg #[.string ⟨id.toArray⟩, .int .u8 st.toNat, .int .u8 fm.toNat, .int .u8 gr.toNat, .string ⟨bo.toArray⟩, .int .i64 pl]] w fun e w' => e = .returned (.bool true) ∧ Below w.heap.size w w' := by
  have BD := Lib.hid (fun w => bad_any 0 0 w)
  rw [show ((0 : Int) != 0) = false by rfl] at BD
  have g0 : (6 : Int) ≤ s.length := by omega
  have i3 : (3 : Int) < s.length := by omega
  have i4 : (4 : Int) < s.length := by omega
  have i5 : (5 : Int) < s.length := by omega
  have HN2 := Lib.hid hN
  clear hN
  have c3 := byte_le s[3]
  have c4 := byte_le s[4]
  have c5 := byte_le s[5]
  go_enter Try.func6, Try.ntmps6
  go_upto_region 11 with (first | (go_at_call 39; (with_reducible refine (PR.out _).mono ?_); rintro e w1 ⟨rfl, hb1⟩; have X := Lib.hid (block_below (at_a0 w _ _) hb1); have K := Lib.hid (below_a1 hb1); clear hb1) | (go_at_call 21; (with_reducible refine (BD.out _).mono ?_); rintro e w2 ⟨rfl, hb2⟩; replace X := Lib.hid (block_below X.out (below_a1 hb2)); replace K := Lib.hid (nextB K.out (below_a1 hb2)); clear hb2; have a0 := cell_at (j := 0) X.out; have a1 := cell_at (j := 1) X.out; have a2 := cell_at (j := 2) X.out; have a3 := cell_at (j := 3) X.out; have a4 := cell_at (j := 4) X.out; have a5 := cell_at (j := 5) X.out; simp only [List.getElem?_toArray, List.getElem?_cons_zero, List.getElem?_cons_succ] at a0 a1 a2 a3 a4 a5))
  go_quiet (fail)
  go_upto_region 18 with (fail)
  rw [or3, HN.out]
  have hN := HN2.out
  clear c3 c4 c5 a0 a1 a2 a3 a4 a5
  have tN : ((s.length : Int) == 6 + (N : Int)) = true := by simp; omega
  have hN5 : (N : Int) ≤ 5000 := by omega
  clear HN HN2 hN
  replace X : Hid ((World.drewN w2 nq).heap[w.heap.size]? = some (.cells #[.string ⟨id.toArray⟩, .int .u8 st.toNat, .int .u8 fm.toNat, .int .u8 gr.toNat, .string ⟨bo.toArray⟩, .int .i64 pl] 51 (0, 0))) := Lib.hid X.out
  replace K := Lib.hid (fr_belowN K.out nq)
  generalize World.drewN w2 nq = v2 at *
  have a0 := cell_at (j := 0) X.out; have a1 := cell_at (j := 1) X.out; have a2 := cell_at (j := 2) X.out; have a3 := cell_at (j := 3) X.out; have a4 := cell_at (j := 4) X.out; have a5 := cell_at (j := 5) X.out; simp only [List.getElem?_toArray, List.getElem?_cons_zero, List.getElem?_cons_succ] at a0 a1 a2 a3 a4 a5
  go_wp2_with (first | (go_at_call 33; (with_reducible refine (SP.out _).mono ?_); rintro e w3 ⟨rfl, hb3⟩; replace K := Lib.hid (nextB K.out (hb3)); clear hb3) | (go_at_call 26; (with_reducible refine (awake13' _).mono ?_); rintro e w4 ⟨rfl, hb4⟩; replace K := Lib.hid (nextB K.out (hb4)); clear hb4))
  go_ret
  exact ⟨rfl, K.out⟩
set_option maxHeartbeats 4000000 in
set_option maxRecDepth 100000 in
theorem fsizes_3 (id : List UInt8) (st fm gr : UInt8) (bo : List UInt8) (pl : Int) (s : List UInt8) (w : World) (h1 : ¬ (1000 : Int) < bo.length) (h2 : ¬ (100 : Int) < id.length)
    (hs0 : 10 ≤ s.length) (hs1 : s.length ≤ 5000) (N : Nat) (HN : Hid (((s[4].toNat * 256 + s[5].toNat) * 256 + s[6].toNat) * 256 + s[7].toNat = N)) (hN : s.length = 10 + N)
    (PR : Hid (∀ w, Calls Try.prog 39 #[.agg #[.string ⟨id.toArray⟩, .int .u8 st.toNat, .int .u8 fm.toNat, .int .u8 gr.toNat, .string ⟨bo.toArray⟩, .int .i64 pl], .int .i64 3] w fun e w' => e = .returned (.tuple #[.string ⟨s.toArray⟩, .agg #[.int .i64 0, .int .i64 0]]) ∧ Below w.heap.size w w'))
    (SP : Hid (∀ w, Calls Try.prog 33 #[.agg #[.string ⟨id.toArray⟩, .int .u8 st.toNat, .int .u8 fm.toNat], .int .i64 3] w fun e w' => e = .returned (.bool false) ∧ Below w.heap.size w w')) :
    Calls Try.prog 6 #[.int .i64 3, .agg #[.string ⟨id.toArray⟩, .int .u8 st.toNat, .int .u8 fm.toNat, .int .u8 gr.toNat, .string ⟨bo.toArray⟩, .int .i64 pl]] w fun e w' => e = .returned (.bool true) ∧ Below w.heap.size w w' := by
  have BD := Lib.hid (fun w => bad_any 0 0 w)
  rw [show ((0 : Int) != 0) = false by rfl] at BD
  have g0 : (10 : Int) ≤ s.length := by omega
  have i6 : (6 : Int) < s.length := by omega
  have i7 : (7 : Int) < s.length := by omega
  have i4 : (4 : Int) < s.length := by omega
  have i5 : (5 : Int) < s.length := by omega
  have HN2 := Lib.hid hN
  clear hN
  have c6 := byte_le s[6]
  have c7 := byte_le s[7]
  have c4 := byte_le s[4]
  have c5 := byte_le s[5]
  go_enter Try.func6, Try.ntmps6
  go_upto_region 13 with (first | (go_at_call 39; (with_reducible refine (PR.out _).mono ?_); rintro e w1 ⟨rfl, hb1⟩; have X := Lib.hid (block_below (at_a0 w _ _) hb1); have K := Lib.hid (below_a1 hb1); clear hb1) | (go_at_call 21; (with_reducible refine (BD.out _).mono ?_); rintro e w2 ⟨rfl, hb2⟩; replace X := Lib.hid (block_below X.out (below_a1 hb2)); replace K := Lib.hid (nextB K.out (below_a1 hb2)); clear hb2; have a0 := cell_at (j := 0) X.out; have a1 := cell_at (j := 1) X.out; have a2 := cell_at (j := 2) X.out; have a3 := cell_at (j := 3) X.out; have a4 := cell_at (j := 4) X.out; have a5 := cell_at (j := 5) X.out; simp only [List.getElem?_toArray, List.getElem?_cons_zero, List.getElem?_cons_succ] at a0 a1 a2 a3 a4 a5))
  go_quiet (fail)
  go_upto_region 18 with (fail)
  rw [or4, HN.out]
  have hN := HN2.out
  clear c4 c5 c6 c7 a0 a1 a2 a3 a4 a5
  have tN : ((s.length : Int) == 10 + (N : Int)) = true := by simp; omega
  have hN5 : (N : Int) ≤ 5000 := by omega
  clear HN HN2 hN
  replace X : Hid ((World.drewN w2 nq).heap[w.heap.size]? = some (.cells #[.string ⟨id.toArray⟩, .int .u8 st.toNat, .int .u8 fm.toNat, .int .u8 gr.toNat, .string ⟨bo.toArray⟩, .int .i64 pl] 51 (0, 0))) := Lib.hid X.out
  replace K := Lib.hid (fr_belowN K.out nq)
  generalize World.drewN w2 nq = v2 at *
  have a0 := cell_at (j := 0) X.out; have a1 := cell_at (j := 1) X.out; have a2 := cell_at (j := 2) X.out; have a3 := cell_at (j := 3) X.out; have a4 := cell_at (j := 4) X.out; have a5 := cell_at (j := 5) X.out; simp only [List.getElem?_toArray, List.getElem?_cons_zero, List.getElem?_cons_succ] at a0 a1 a2 a3 a4 a5
  go_wp2_with (first | (go_at_call 33; (with_reducible refine (SP.out _).mono ?_); rintro e w3 ⟨rfl, hb3⟩; replace K := Lib.hid (nextB K.out (hb3)); clear hb3) | (go_at_call 26; (with_reducible refine (awake13' _).mono ?_); rintro e w4 ⟨rfl, hb4⟩; replace K := Lib.hid (nextB K.out (hb4)); clear hb4))
  go_ret
  exact ⟨rfl, K.out⟩
set_option maxHeartbeats 4000000 in
set_option maxRecDepth 100000 in
theorem fsizes_4 (id : List UInt8) (st fm gr : UInt8) (bo : List UInt8) (pl : Int) (s : List UInt8) (w : World) (h1 : ¬ (1000 : Int) < bo.length) (h2 : ¬ (100 : Int) < id.length)
    (hs0 : 10 ≤ s.length) (hs1 : s.length ≤ 5000) (sp : Bool) (hl4 : s[4].toNat < 128) (hl5 : s[5].toNat < 128) (hl6 : s[6].toNat < 128) (hl7 : s[7].toNat < 128) (HF : Hid (sp = true → ∀ j, 15 < j → (h : j + 1 < s.length) → s[j].toNat = 255 → s[j + 1].toNat < 224)) (N : Nat) (HN : Hid (((s[4].toNat * 128 + s[5].toNat) * 128 + s[6].toNat) * 128 + s[7].toNat = N)) (hN : s.length = 10 + N)
    (PR : Hid (∀ w, Calls Try.prog 39 #[.agg #[.string ⟨id.toArray⟩, .int .u8 st.toNat, .int .u8 fm.toNat, .int .u8 gr.toNat, .string ⟨bo.toArray⟩, .int .i64 pl], .int .i64 4] w fun e w' => e = .returned (.tuple #[.string ⟨s.toArray⟩, .agg #[.int .i64 0, .int .i64 0]]) ∧ Below w.heap.size w w'))
    (SP : Hid (∀ w, Calls Try.prog 33 #[.agg #[.string ⟨id.toArray⟩, .int .u8 st.toNat, .int .u8 fm.toNat], .int .i64 4] w fun e w' => e = .returned (.bool sp) ∧ Below w.heap.size w w')) :
    Calls Try.prog 6 #[.int .i64 4, .agg #[.string ⟨id.toArray⟩, .int .u8 st.toNat, .int .u8 fm.toNat, .int .u8 gr.toNat, .string ⟨bo.toArray⟩, .int .i64 pl]] w fun e w' => e = .returned (.bool true) ∧ Below w.heap.size w w' := by
  have BD := Lib.hid (fun w => bad_any 0 0 w)
  rw [show ((0 : Int) != 0) = false by rfl] at BD
  have g0 : (10 : Int) ≤ s.length := by omega
  have i6 : (6 : Int) < s.length := by omega
  have i7 : (7 : Int) < s.length := by omega
  have i4 : (4 : Int) < s.length := by omega
  have i5 : (5 : Int) < s.length := by omega
  have HN2 := Lib.hid hN
  clear hN
  have c6 := byte_le s[6]
  have c7 := byte_le s[7]
  have c4 := byte_le s[4]
  have c5 := byte_le s[5]
  obtain ⟨x1, e1, l1⟩ : ∃ x1 : UInt8, bits .or .u8 (s[4].toNat : Int) (s[5].toNat : Int) = (x1.toNat : Int) ∧ x1.toNat < 128 := ⟨_, orB _ _, or_low _ _ hl4 hl5⟩
  obtain ⟨x2, e2, l2⟩ : ∃ x2 : UInt8, bits .or .u8 (x1.toNat : Int) (s[6].toNat : Int) = (x2.toNat : Int) ∧ x2.toNat < 128 := ⟨_, orB _ _, or_low _ _ l1 hl6⟩
  obtain ⟨x3, e3, l3⟩ : ∃ x3 : UInt8, bits .or .u8 (x2.toNat : Int) (s[7].toNat : Int) = (x3.toNat : Int) ∧ x3.toNat < 128 := ⟨_, orB _ _, or_low _ _ l2 hl7⟩
  have l3i : ¬ (128 : Int) ≤ x3.toNat := by omega
  go_enter Try.func6, Try.ntmps6
  go_upto_region 15 with (first | (go_at_call 39; (with_reducible refine (PR.out _).mono ?_); rintro e w1 ⟨rfl, hb1⟩; have X := Lib.hid (block_below (at_a0 w _ _) hb1); have K := Lib.hid (below_a1 hb1); clear hb1) | (go_at_call 21; (with_reducible refine (BD.out _).mono ?_); rintro e w2 ⟨rfl, hb2⟩; replace X := Lib.hid (block_below X.out (below_a1 hb2)); replace K := Lib.hid (nextB K.out (below_a1 hb2)); clear hb2; have a0 := cell_at (j := 0) X.out; have a1 := cell_at (j := 1) X.out; have a2 := cell_at (j := 2) X.out; have a3 := cell_at (j := 3) X.out; have a4 := cell_at (j := 4) X.out; have a5 := cell_at (j := 5) X.out; simp only [List.getElem?_toArray, List.getElem?_cons_zero, List.getElem?_cons_succ] at a0 a1 a2 a3 a4 a5))
  go_quiet (fail)
  clear e1 e2 e3
  go_upto_region 17 with (fail)
  replace K := Lib.hid (fr_belowN K.out nq)
  replace X : Hid ((World.drewN w2 nq).heap[w.heap.size]? = some (.cells #[.string ⟨id.toArray⟩, .int .u8 st.toNat, .int .u8 fm.toNat, .int .u8 gr.toNat, .string ⟨bo.toArray⟩, .int .i64 pl] 51 (0, 0))) := Lib.hid X.out
  clear a0 a1 a2 a3 a4 a5
  generalize World.drewN w2 nq = v1 at *
  go_quiet (fail)
  go_upto_region 18 with (fail)
  rw [or7 _ _ _ _ hl4 hl5 hl6 hl7, HN.out]
  have hN := HN2.out
  clear c4 c5 c6 c7 hl4 hl5 hl6 hl7
  have tN : ((s.length : Int) == 10 + (N : Int)) = true := by simp; omega
  have hN5 : (N : Int) ≤ 5000 := by omega
  clear HN HN2 hN
  replace X : Hid ((World.drewN v1 nq).heap[w.heap.size]? = some (.cells #[.string ⟨id.toArray⟩, .int .u8 st.toNat, .int .u8 fm.toNat, .int .u8 gr.toNat, .string ⟨bo.toArray⟩, .int .i64 pl] 51 (0, 0))) := Lib.hid X.out
  replace K := Lib.hid (fr_belowN K.out nq)
  generalize World.drewN v1 nq = v2 at *
  have a0 := cell_at (j := 0) X.out; have a1 := cell_at (j := 1) X.out; have a2 := cell_at (j := 2) X.out; have a3 := cell_at (j := 3) X.out; have a4 := cell_at (j := 4) X.out; have a5 := cell_at (j := 5) X.out; simp only [List.getElem?_toArray, List.getElem?_cons_zero, List.getElem?_cons_succ] at a0 a1 a2 a3 a4 a5
  rcases sp with _ | _
  · go_wp2_with (first | (go_at_call 33; (with_reducible refine (SP.out _).mono ?_); rintro e w3 ⟨rfl, hb3⟩; replace K := Lib.hid (nextB K.out (hb3)); clear hb3) | (go_at_call 26; (with_reducible refine (awake13' _).mono ?_); rintro e w4 ⟨rfl, hb4⟩; replace K := Lib.hid (nextB K.out (hb4)); clear hb4))
    go_ret
    exact ⟨rfl, K.out⟩
  · go_wp2_with (go_at_call 33; (with_reducible refine (SP.out _).mono ?_); rintro e w3 ⟨rfl, hb3⟩; replace K := Lib.hid (nextB K.out (hb3)); clear hb3)
    clear a0 a1 a2 a3 a4 a5 X
    go_loop [9] (fun i => ∃ (j : Nat), 10 ≤ j ∧ j ≤ s.length ∧ i = .int .i64 j) (fun i => s.length - (intOf i).toNat)
    case atStart => exact ⟨10, by omega, by omega, rfl⟩
    case round =>
      obtain ⟨j, hj10, hjl, rfl⟩ := hrel
      by_cases hlt : j + 1 < s.length
      · have g1 : (j : Int) < (s.length : Int) - 1 := by omega
        have g2 : (j : Int) < (s.length : Int) := by omega
        have g3 : (j : Int) + 1 < (s.length : Int) := by omega
        have g4 : j < s.length := by omega
        have hF := HF.out (by trivial) j
        have b1 := byte_le s[j]
        have b2 := byte_le s[j + 1]
        by_cases h255 : s[j].toNat = 255
        · have t1 : ((s[j].toNat : Int) == 255) = true := by simp; omega
          by_cases h224 : s[j + 1].toNat < 224
          · have t2 : ¬ (224 : Int) ≤ (s[j + 1].toNat : Int) := by omega
            clear hF h255 h224
            go_wp2
            go_round
            case rel => exact ⟨j + 1, by omega, by omega, by go_num⟩
            case measure => simp [intOf]; omega
          · have t2 : (224 : Int) ≤ (s[j + 1].toNat : Int) := by omega
            have t3 : ¬ (15 : Int) < (j : Int) := by
              intro h
              exact h224 (hF (by omega) hlt h255)
            clear hF h255 h224
            go_wp2
            go_round
            case rel => exact ⟨j + 1, by omega, by omega, by go_num⟩
            case measure => simp [intOf]; omega
        · have t1 : ((s[j].toNat : Int) == 255) = false := by simp; omega
          clear hF h255
          go_wp2
          go_round
          case rel => exact ⟨j + 1, by omega, by omega, by go_num⟩
          case measure => simp [intOf]; omega
      · have g1 : ¬ (j : Int) < (s.length : Int) - 1 := by omega
        go_wp2_with (go_at_call 26; (with_reducible refine (awake13' _).mono ?_); rintro e w4 ⟨rfl, hb4⟩; replace K := Lib.hid (nextB K.out (hb4)); clear hb4)
        go_ret
        exact ⟨rfl, K.out⟩
theorem put_sound (pre l : List UInt8) (s : List UInt8) (hs : s = pre ++ sndPut l) (j : Nat) (hj : pre.length ≤ j) (h : j + 1 < s.length) (h255 : s[j].toNat = 255) : s[j + 1].toNat < 224 := by
  subst hs
  have e1 : (pre ++ sndPut l)[j]? = some ((pre ++ sndPut l)[j]) := List.getElem?_eq_getElem (by omega)
  have e2 : (pre ++ sndPut l)[j + 1]? = some ((pre ++ sndPut l)[j + 1]) := List.getElem?_eq_getElem h
  have c255 : (pre ++ sndPut l)[j] = 255 := by rw [u8_eq]; exact h255
  rw [c255, List.getElem?_append_right hj] at e1
  rw [List.getElem?_append_right (by omega), show j + 1 - pre.length = j - pre.length + 1 by omega] at e2
  obtain ⟨d, hd, hlt⟩ := put_at l _ e1
  rw [hd] at e2
  simp only [Option.some.injEq] at e2
  rw [← e2]
  exact hlt
theorem walk_FrameSizes (w : World) (v : Int) (hv : (Lit.int .i64 v).wf = true) (fv : Value) (hf : ∃ f : Fr, fv = frV f ∧ f.id.length ≤ maxLen ∧ f.bo.length ≤ maxLen) :
    Calls Try.prog 6 #[.int .i64 v, fv] w fun e w' => e = .returned (.bool true) ∧ Below w.heap.size w w' := by
  obtain ⟨f, rfl, _, _⟩ := hf
  by_cases h1 : (1000 : Int) < f.bo.length
  · exact fsizes_over v f w (.inl h1)
  by_cases h2 : (100 : Int) < f.id.length
  · exact fsizes_over v f w (.inr h2)
  have PR := Lib.hid (fun w => fprint_any v f w (by omega) (by omega))
  by_cases hc : checkF v f = 0
  rotate_left
  · exact fsizes_bad v f.id f.st f.fm f.gr f.bo f.pl (checkF v f) _ w h1 h2 hc PR
  rw [hc, if_pos rfl] at PR
  obtain ⟨hvv, hiL, _⟩ := named_ok (checkF_ok hc).1
  have SP := Lib.hid (fun w => spread_any v f.id f.st f.fm w)
  have hll := lengthF_le v f
  have hdl := data_len v f
  have hpe := printF_eq v f
  rcases hvv with rfl | rfl | rfl
  · rw [spread_not (by decide)] at SP
    have hb := bigL_len 3 (lengthF 2 f)
    have hn := numL_bigL 3 (lengthF 2 f)
    rw [Nat.mod_eq_of_lt (by omega)] at hn
    have hi3 : f.id.length = 3 := hiL
    match hid : f.id, hi3 with
    | [i0, i1, i2], _ =>
      match hbb : bigL (lengthF 2 f) 3, hb with
      | [a, b, c], _ =>
        have hs : printF 2 f = i0 :: i1 :: i2 :: a :: b :: c :: dataL 2 f := by
          rw [hpe, hid]; unfold sizeL flagL; rw [if_pos rfl, if_pos rfl, hbb]; rfl
        rw [hbb] at hn
        rw [hs] at PR
        rw [← hid] at *
        refine fsizes_2 f.id f.st f.fm f.gr f.bo f.pl _ w h1 h2 (by simp) (by simp; omega) (lengthF 2 f) (Lib.hid ?_) (by simp; omega) PR SP
        rw [← hn]
        simp [numL]
  · rw [spread_not (by decide)] at SP
    have hb := bigL_len 4 (lengthF 3 f)
    have hn := numL_bigL 4 (lengthF 3 f)
    rw [Nat.mod_eq_of_lt (by omega)] at hn
    have hi3 : f.id.length = 4 := hiL
    match hid : f.id, hi3 with
    | [i0, i1, i2, i3], _ =>
      match hbb : bigL (lengthF 3 f) 4, hb with
      | [a, b, c, d], _ =>
        have hs : printF 3 f = i0 :: i1 :: i2 :: i3 :: a :: b :: c :: d :: f.st :: f.fm :: dataL 3 f := by
          rw [hpe, hid]; unfold sizeL flagL; rw [if_neg (by decide), if_pos rfl, if_neg (by decide), hbb, bigL_1, bigL_1]; rfl
        rw [hbb] at hn
        rw [hs] at PR
        rw [← hid] at *
        refine fsizes_3 f.id f.st f.fm f.gr f.bo f.pl _ w h1 h2 (by simp) (by simp; omega) (lengthF 3 f) (Lib.hid ?_) (by simp; omega) PR SP
        rw [← hn]
        simp [numL]
  · have hn := num7_safeL (lengthF 4 f) (by omega)
    have hlo := safeL_low (lengthF 4 f)
    have hb := safeL_length (lengthF 4 f)
    have hi3 : f.id.length = 4 := hiL
    match hid : f.id, hi3 with
    | [i0, i1, i2, i3], _ =>
      match hbb : safeL (lengthF 4 f), hb with
      | [a, b, c, d], _ =>
        have hs : printF 4 f = i0 :: i1 :: i2 :: i3 :: a :: b :: c :: d :: f.st :: f.fm :: dataL 4 f := by
          rw [hpe, hid]; unfold sizeL flagL; rw [if_neg (by decide), if_neg (by decide), if_neg (by decide), hbb, bigL_1, bigL_1]; rfl
        rw [hbb] at hn hlo
        have lo : ∀ x ∈ [a, b, c, d], x.toNat < 128 := fun x hx => by have := hlo x hx; unfold hi at this; simp at this; omega
        have hF : ∀ s : List UInt8, s = printF 4 f → spreadB 4 f.fm = true → ∀ j, 15 < j → (h : j + 1 < s.length) → s[j].toNat = 255 → s[j + 1].toNat < 224 := by
          intro s he hsp j hj h h255
          have hd : dataL 4 f = ((if grouped 4 f.fm = true then bigL f.gr.toNat 1 else []) ++ (if measured 4 f.fm = true then safeL f.bo.length else [])) ++ sndPut f.bo := by
            unfold dataL; rw [hsp, if_pos rfl, List.append_assoc]
          refine put_sound (i0 :: i1 :: i2 :: i3 :: a :: b :: c :: d :: f.st :: f.fm :: ((if grouped 4 f.fm = true then bigL f.gr.toNat 1 else []) ++ (if measured 4 f.fm = true then safeL f.bo.length else []))) f.bo s (by rw [he, hs, hd]; rfl) j ?_ h h255
          simp only [List.length_cons, List.length_append]
          split <;> split <;> simp [bigL_len, safeL_length] <;> omega
        have HF := Lib.hid (hF _ hs.symm)
        rw [hs] at PR
        rw [← hid] at *
        refine fsizes_4 f.id f.st f.fm f.gr f.bo f.pl (i0 :: i1 :: i2 :: i3 :: a :: b :: c :: d :: f.st :: f.fm :: dataL 4 f) w h1 h2 (by simp) (by simp; omega) (spreadB 4 f.fm) (lo a (by simp)) (lo b (by simp)) (lo c (by simp)) (lo d (by simp)) HF (lengthF 4 f) (Lib.hid ?_) (by simp; omega) PR SP
        rw [← hn]
        simp [num7]
end Go.Proofs.Ytdoheningeafhaa
