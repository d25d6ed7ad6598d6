/- Plain texts (all bytes below 128): detect.Mark, Resolve, walked. | Plain texts: point.scan, point.Check, walked. | Plain texts: charset.Decode as UTF-8, walked. | Plain texts: utf8.word, walked. -/
import Derived.Test.YtndpcphmndfajaaGreatDoorZSrt4

namespace Go.Proofs.YtndpcphmndfajaaGreatDoor
open Go.RowKit
set_option linter.unusedVariables false
set_option linter.unusedSimpArgs false

def Asc (t : List UInt8) : Prop := ∀ c ∈ t, c.toNat < 128
theorem pre_asc (t : List UInt8) (c : UInt8) (p : List UInt8) (ht : Asc t) (hc : 128 ≤ c.toNat) : Lib.hasPrefix t (c :: p) = false := by
  cases t with
  | nil => rfl
  | cons x r =>
    have := ht x List.mem_cons_self
    have hne : (c == x) = false := by
      rw [beq_eq_false_iff_ne]
      intro e
      rw [← e] at this
      omega
    simp [Lib.hasPrefix, List.isPrefixOf, hne]
theorem preN_any (t : List UInt8) (c : UInt8) (p : List UInt8) (ht : Asc t) (hc : 128 ≤ c.toNat) (w : World) : Calls Tryz.prog 28 #[.string ⟨t.toArray⟩, .string ⟨(c :: p).toArray⟩] w fun e w' => e = .returned (.bool false) ∧ w = w' :=
  (Tryz.strings_HasPrefix ⟨t.toArray⟩ ⟨(c :: p).toArray⟩ w).mono fun e w' ⟨h1, h2⟩ => ⟨by rw [h1]; show Ending.returned (.bool (Lib.hasPrefix t (c :: p))) = _; rw [pre_asc t c p ht hc], h2.symm⟩
set_option maxRecDepth 100000 in
theorem dmark_any (t : List UInt8) (ht : Asc t) (w : World) : Calls Tryz.prog 53 #[.string ⟨t.toArray⟩] w fun e w' => e = .returned (.tuple #[.int .i64 0, .int .i64 0]) ∧ w = w' := by
  have H1 : Hid (∀ w, Calls Tryz.prog 28 #[.string ⟨t.toArray⟩, .string ⟨#[239, 187, 191]⟩] w fun e w' => e = .returned (.bool false) ∧ w = w') := Lib.hid (fun w => preN_any t 239 [187, 191] ht (by decide) w)
  have H2 : Hid (∀ w, Calls Tryz.prog 28 #[.string ⟨t.toArray⟩, .string ⟨#[255, 254]⟩] w fun e w' => e = .returned (.bool false) ∧ w = w') := Lib.hid (fun w => preN_any t 255 [254] ht (by decide) w)
  have H3 : Hid (∀ w, Calls Tryz.prog 28 #[.string ⟨t.toArray⟩, .string ⟨#[254, 255]⟩] w fun e w' => e = .returned (.bool false) ∧ w = w') := Lib.hid (fun w => preN_any t 254 [255] ht (by decide) w)
  clear ht
  go_enter Tryz.func53, Tryz.ntmps53
  go_wp2_with (first | (go_at_call 28; with_reducible refine (H1.out _).mono ?_; rintro e w1 ⟨rfl, rfl⟩) | (go_at_call 28; with_reducible refine (H2.out _).mono ?_; rintro e w1 ⟨rfl, rfl⟩) | (go_at_call 28; with_reducible refine (H3.out _).mono ?_; rintro e w1 ⟨rfl, rfl⟩))
  go_ret2
  exact ⟨rfl, rfl⟩
/-- what is asked of utf8.ValidString -/
def ValidAsc : Prop := ∀ (t : List UInt8) (w : World), Asc t → t.length ≤ 1000000 → Calls Tryz.prog 141 #[.string ⟨t.toArray⟩] w fun e w' => e = .returned (.bool true) ∧ Below w.heap.size w w'
set_option maxRecDepth 100000 in
theorem pvalid_any (HV : ValidAsc) (t : List UInt8) (w : World) (ht : Asc t) (hl : t.length ≤ 1000000) : Calls Tryz.prog 67 #[.string ⟨t.toArray⟩] w fun e w' => e = .returned (.bool true) ∧ Below w.heap.size w w' := by
  have H1 := Lib.hid (fun w => HV t w ht hl)
  clear ht HV
  go_enter Tryz.func67, Tryz.ntmps67
  go_wp2_with (go_at_call 141; refine (H1.out _).mono ?_; rintro e w1 ⟨rfl, hb1⟩)
  go_ret
  exact ⟨rfl, hb1⟩
set_option maxRecDepth 100000 in
theorem resolve_any (HV : ValidAsc) (t d : List UInt8) (o : Value) (os : Array Value) (ho : o = .agg os) (hos : os.size = 4) (w : World) (ht : Asc t) (hl : t.length ≤ 1000000) : Calls Tryz.prog 54 #[.string ⟨t.toArray⟩, .string ⟨d.toArray⟩, o] w fun e w' => e = .returned (.int .i64 7) ∧ Below w.heap.size w w' := by
  have H1 := Lib.hid (fun w => pvalid_any HV t w ht hl)
  clear ht HV
  subst ho
  go_enter Tryz.func54, Tryz.ntmps54
  go_wp2_with (go_at_call 67; refine (H1.out _).mono ?_; rintro e w1 ⟨rfl, hb1⟩)
  go_ret
  exact ⟨rfl, below_a1 hb1⟩
end Go.Proofs.YtndpcphmndfajaaGreatDoor

namespace Go.Proofs.YtndpcphmndfajaaGreatDoor
open Go.RowKit
set_option linter.unusedVariables false
set_option linter.unusedSimpArgs false

set_option maxHeartbeats 2000000 in
set_option maxRecDepth 100000 in
theorem scan_asc (t : List UInt8) (ht : Asc t) (hl : t.length ≤ 1000000) (w : World) : Calls Tryz.prog 204 #[.string ⟨t.toArray⟩] w fun e w' =>
    e = .returned (.tuple #[.int .i64 t.length, .agg #[.int .i64 0, .int .i64 0]]) ∧ Below w.heap.size w w' := by
  have F := Lib.hid (at_a0 w #[.int .i64 0, .int .i64 0] 26)
  have K := Lib.hid ((Below.refl w.heap.size w).alloc (Nat.le_refl _) (.cells #[.int .i64 0, .int .i64 0] 26))
  obtain ⟨rb, hrb⟩ : ∃ rb, rb = w.heap.size := ⟨_, rfl⟩
  have HA := Lib.hid ht
  clear ht
  go_enter Tryz.func204, Tryz.ntmps204
  go_upto_region 1 with (fail)
  generalize w.alloc (.cells #[.int .i64 0, .int .i64 0] 26) = w0 at *
  rw [← hrb] at F
  rw [← hrb]
  have HRB := Lib.hid hrb
  clear hrb
  go_wp2
  go_loopw [4, 5] (fun n i wr => ∃ k : Nat, k ≤ t.length ∧ n = .int .i64 (k : Nat) ∧ i = .int .i64 (k : Nat) ∧ Hid (wr.heap[rb]? = some (.cells #[.int .i64 0, .int .i64 0] 26 (0, 0))) ∧ Hid (Below w.heap.size w wr)) (fun _ i _ => t.length - (intOf i).toNat)
  case atStart => exact ⟨0, by omega, rfl, rfl, F, K⟩
  case round =>
    obtain ⟨k, hk, rfl, rfl, F, K⟩ := hrel
    by_cases hlt : k < t.length
    · have q0 : (k : Int) < (t.length : Int) := by omega
      have q1 : (k : Int) ≤ (t.length : Int) := by omega
      have hx : t[k].toNat < 128 := HA.out _ (List.getElem_mem hlt)
      have j0 : ((t[k].toNat : Int) == 65533) = false := by simp only [beq_eq_false_iff_ne, ne_eq]; omega
      have HD : Hid (∀ w : World, Calls Tryz.prog 253 #[.string ⟨((t.drop k).take (t.length - k)).toArray⟩] w fun e w' => e = .returned (.tuple #[.int .i32 t[k].toNat, .int .i64 1]) ∧ w = w') := Lib.hid (fun w =>
        (Tryz.utf8_DecodeRuneInString_ascii ⟨((t.drop k).take (t.length - k)).toArray⟩ t[k] w (by
          show ((t.drop k).take (t.length - k))[0]? = some t[k]
          rw [drop_all, List.getElem?_drop, Nat.add_zero, List.getElem?_eq_getElem hlt]) hx).mono fun e w' ⟨h1, h2⟩ => ⟨h1, h2.symm⟩)
      clear hx
      go_wp2_with (go_at_call 253; refine (HD.out _).mono ?_; rintro e w1 ⟨rfl, rfl⟩)
      exact ⟨⟨k + 1, by omega, by simp, by simp, F, K⟩, by simp [intOf]; omega⟩
    · have q0 : ¬ (k : Int) < (t.length : Int) := by omega
      obtain rfl : k = t.length := by omega
      have hf := F.out
      have d0 := cell_at (j := 0) hf
      have d1 := cell_at (j := 1) hf
      have f0 := free_at (j := 0) hf
      have f1 := free_at (j := 1) hf
      simp only [List.getElem?_toArray, List.getElem?_cons_zero, List.getElem?_cons_succ] at d0 d1
      have hws : w.heap.size ≤ rb := by rw [HRB.out]; exact Nat.le_refl _
      have HWS := Lib.hid hws
      clear hws
      go_wp2
      refine end_tmp_cell rfl rfl rfl (show _ from store2 hf rfl) Tryz.underlying26 rfl (by kernel_rfl) ?_
      exact ⟨rfl, Below.setCell (p := ⟨rb, 1, none⟩) (Below.setCell (p := ⟨rb, 0, none⟩) K.out HWS.out _) HWS.out _⟩
set_option maxHeartbeats 2000000 in
set_option maxRecDepth 100000 in
theorem pcheck_asc (t : List UInt8) (ht : Asc t) (hl : t.length ≤ 1000000) (w : World) : Calls Tryz.prog 124 #[.string ⟨t.toArray⟩] w fun e w' => e = .returned (.agg #[.int .i64 0, .int .i64 0]) ∧ Below w.heap.size w w' := by
  have SC := Lib.hid (fun w => scan_asc t ht hl w)
  have F := Lib.hid (at_a0 w #[.int .i64 0, .int .i64 0] 26)
  have K := Lib.hid ((Below.refl w.heap.size w).alloc (Nat.le_refl _) (.cells #[.int .i64 0, .int .i64 0] 26))
  obtain ⟨rb, hrb⟩ : ∃ rb, rb = w.heap.size := ⟨_, rfl⟩
  clear ht
  go_enter Tryz.func124, Tryz.ntmps124
  go_upto_region 1 with (fail)
  generalize w.alloc (.cells #[.int .i64 0, .int .i64 0] 26) = w0 at *
  rw [← hrb] at F
  rw [← hrb]
  have HRB := Lib.hid hrb
  clear hrb
  have hws : w.heap.size ≤ rb := by rw [HRB.out]; exact Nat.le_refl _
  have HWS := Lib.hid hws
  clear hws
  go_wp2_with (go_at_call 204; (with_reducible refine (SC.out _).mono ?_); rintro e w1 ⟨rfl, hb1⟩; replace F := Lib.hid (block_below F.out hb1); replace K := Lib.hid (nextB K.out hb1); clear hb1; obtain ⟨f0, f1⟩ := cells2 (F.out); obtain ⟨ff0, ff1⟩ := frees2 (F.out); have hfl := (Array.getElem?_eq_some_iff.1 F.out).1)
  have hsz : ((w1.setCell ⟨rb, 0, none⟩ (.int .i64 0)).setCell ⟨rb, 1, none⟩ (.int .i64 0)).heap.size = w1.heap.size := by simp [World.setCell]
  have F2 := (heap_alloc_old ((w1.setCell ⟨rb, 0, none⟩ (.int .i64 0)).setCell ⟨rb, 1, none⟩ (.int .i64 0)) (.cells #[.int .i64 0, .int .i64 0] 26) (r := rb) (by rw [hsz]; exact hfl)).trans (store2 F.out rfl)
  have K9 := Below.setCell (p := ⟨rb, 1, none⟩) (Below.setCell (p := ⟨rb, 0, none⟩) K.out HWS.out (.int .i64 0)) HWS.out (.int .i64 0)
  refine end_cell (by rfl) rfl (by rfl) F2 Tryz.underlying26 rfl (by kernel_rfl) ?_
  exact ⟨rfl, K9.alloc K9.size _⟩
end Go.Proofs.YtndpcphmndfajaaGreatDoor

namespace Go.Proofs.YtndpcphmndfajaaGreatDoor
open Go.RowKit
set_option linter.unusedVariables false
set_option linter.unusedSimpArgs false

set_option maxHeartbeats 2000000 in
set_option maxRecDepth 100000 in
theorem decode_asc (t : List UInt8) (ht : Asc t) (hl : t.length ≤ 1000000) (w : World) : Calls Tryz.prog 56 #[.int .i64 7, .string ⟨t.toArray⟩] w fun e w' =>
    e = .returned (.tuple #[.string ⟨t.toArray⟩, .agg #[.int .i64 0, .int .i64 0]]) ∧ Below w.heap.size w w' := by
  have PC := Lib.hid (fun w => pcheck_asc t ht hl w)
  have BD := Lib.hid (fun w => bad_any 0 0 w)
  rw [show ((0 : Int) != 0) = false by rfl] at BD
  have F := Lib.hid (at_a0 w #[.int .i64 0, .int .i64 0] 26)
  have K := Lib.hid ((Below.refl w.heap.size w).alloc (Nat.le_refl _) (.cells #[.int .i64 0, .int .i64 0] 26))
  obtain ⟨rb, hrb⟩ : ∃ rb, rb = w.heap.size := ⟨_, rfl⟩
  clear ht
  go_enter Tryz.func56, Tryz.ntmps56
  go_upto_region 1 with (fail)
  generalize w.alloc (.cells #[.int .i64 0, .int .i64 0] 26) = w0 at *
  rw [← hrb] at F
  rw [← hrb]
  have HRB := Lib.hid hrb
  clear hrb
  have hws : w.heap.size ≤ rb := by rw [HRB.out]; exact Nat.le_refl _
  have HWS := Lib.hid hws
  clear hws
  go_upto_region 14 with (go_at_call 124; (with_reducible refine (PC.out _).mono ?_); rintro e w1 ⟨rfl, hb1⟩; replace F := Lib.hid (block_below F.out hb1); replace K := Lib.hid (nextB K.out hb1); clear hb1)
  have hfl := (Array.getElem?_eq_some_iff.1 F.out).1
  have F2 := Lib.hid ((heap_alloc_old w1 (.cells #[.int .i64 0, .int .i64 0] 26) hfl).trans F.out)
  have K2 := Lib.hid (K.out.alloc K.out.size (.cells #[.int .i64 0, .int .i64 0] 26))
  have G := Lib.hid (at_a0 w1 #[.int .i64 0, .int .i64 0] 26)
  clear F K hfl
  generalize w1.alloc (.cells #[.int .i64 0, .int .i64 0] 26) = w2 at *
  generalize w1.heap.size = gb at *
  obtain ⟨g0, g1⟩ := cells2 (G.out); obtain ⟨gf0, gf1⟩ := frees2 (G.out)
  go_wp2_with (go_at_call 6; (with_reducible refine (BD.out _).mono ?_); rintro e w3 ⟨rfl, hb3⟩; replace F2 := Lib.hid (block_below F2.out hb3); replace K2 := Lib.hid (nextB K2.out hb3); clear hb3; obtain ⟨f0, f1⟩ := cells2 (F2.out); obtain ⟨ff0, ff1⟩ := frees2 (F2.out))
  refine end_tmp_cell rfl rfl rfl (show _ from store2 F2.out rfl) Tryz.underlying26 rfl (by kernel_rfl) ?_
  exact ⟨rfl, Below.setCell (p := ⟨rb, 1, none⟩) (Below.setCell (p := ⟨rb, 0, none⟩) K2.out HWS.out _) HWS.out _⟩
end Go.Proofs.YtndpcphmndfajaaGreatDoor

namespace Go.Proofs.YtndpcphmndfajaaGreatDoor
open Go.RowKit
set_option linter.unusedVariables false
set_option linter.unusedSimpArgs false

def wv (b0 b1 b2 b3 b4 b5 b6 b7 : UInt8) : Int := (bits BinOp.or IntKind.u64 (bits BinOp.or IntKind.u64 (bits BinOp.or IntKind.u64 (bits BinOp.or IntKind.u64 (bits BinOp.or IntKind.u64 (bits BinOp.or IntKind.u64 (bits BinOp.or IntKind.u64 (IntKind.u64.wrap (b0.toNat : Int)) (IntKind.u64.wrap ((IntKind.u64.wrap (b1.toNat : Int)) * 256))) (IntKind.u64.wrap ((IntKind.u64.wrap (b2.toNat : Int)) * 65536))) (IntKind.u64.wrap ((IntKind.u64.wrap (b3.toNat : Int)) * 16777216))) (IntKind.u64.wrap ((IntKind.u64.wrap (b4.toNat : Int)) * 4294967296))) (IntKind.u64.wrap ((IntKind.u64.wrap (b5.toNat : Int)) * 1099511627776))) (IntKind.u64.wrap ((IntKind.u64.wrap (b6.toNat : Int)) * 281474976710656))) (IntKind.u64.wrap ((IntKind.u64.wrap (b7.toNat : Int)) * 72057594037927936)))
set_option maxHeartbeats 2000000 in
set_option maxRecDepth 100000 in
theorem word_asc (s : List UInt8) (h8 : 8 ≤ s.length) (w : World) : Calls Tryz.prog 220 #[.string ⟨s.toArray⟩] w fun e w' => e = .returned (.int .u64 (wv s[0] s[1] s[2] s[3] s[4] s[5] s[6] s[7])) ∧ Below w.heap.size w w' := by
  have i0 : (0 : Int) < (s.length : Int) := by omega
  have i1 : (1 : Int) < (s.length : Int) := by omega
  have i2 : (2 : Int) < (s.length : Int) := by omega
  have i3 : (3 : Int) < (s.length : Int) := by omega
  have i4 : (4 : Int) < (s.length : Int) := by omega
  have i5 : (5 : Int) < (s.length : Int) := by omega
  have i6 : (6 : Int) < (s.length : Int) := by omega
  have i7 : (7 : Int) < (s.length : Int) := by omega
  have n0 : 0 < s.length := by omega
  have n1 : 1 < s.length := by omega
  have n2 : 2 < s.length := by omega
  have n3 : 3 < s.length := by omega
  have n4 : 4 < s.length := by omega
  have n5 : 5 < s.length := by omega
  have n6 : 6 < s.length := by omega
  have n7 : 7 < s.length := by omega
  go_enter Tryz.func220, Tryz.ntmps220
  go_upto_region 2 with (fail)
  go_quiet (fail)
  go_wp2
  go_ret
  exact ⟨rfl, below_drewN (Below.refl _ _) _⟩
end Go.Proofs.YtndpcphmndfajaaGreatDoor
