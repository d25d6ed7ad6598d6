/- The walk of the statement SrtReads. -/
import Derived.Test.YtemiegbgnpcbiaaSrt6
import Derived.Deep.RegionHeld3
import Derived.Deep.RegionWith
namespace Go.Proofs.Ytemiegbgnpcbiaa
open Go.RowKit
set_option linter.unusedVariables false

theorem below_eq {B : Nat} {V w w' : World} (h : Below B V w) (e1 : w'.os = w.os) (e2 : w'.tape = w.tape) (e3 : w'.output = w.output) (e4 : w'.heap = w.heap) : Below B V w' :=
  ⟨e1.trans h.os, e2.trans h.tape, e3.trans h.output, by rw [e4]; exact h.size, fun k hk => by rw [e4]; exact h.block k hk⟩

set_option maxRecDepth 100000 in
theorem sreads_over (t : List UInt8) (w : World) (h1 : (2000 : Int) < t.length) :
    Calls Try.prog 6 #[.string ⟨t.toArray⟩] w fun e w' => e = .returned (.bool true) ∧ Below w.heap.size w w' := by
  go_enter Try.func6, Try.ntmps6
  go_wp2_with (go_at_call 22; refine (awake24' _).mono ?_; rintro e w1 ⟨rfl, hb1⟩)
  go_ret
  exact ⟨rfl, hb1⟩

set_option maxHeartbeats 4000000 in
set_option maxRecDepth 100000 in
theorem sreads_err (t : List UInt8) (w : World) (ht : ¬ (2000 : Int) < t.length) (a : Nat) (hr : readS t = .error a) :
    Calls Try.prog 6 #[.string ⟨t.toArray⟩] w fun e w' => e = .returned (.bool true) ∧ Below w.heap.size w w' := by
  have hp := fun w => sparse_any t w (by omega)
  have hq := fun w => rparse_any t w (by omega)
  unfold ParseSays at hp
  unfold RParseSays at hq
  rw [hr] at hp hq
  simp only at hp hq
  have HP := Lib.hid hp
  have HQ := Lib.hid hq
  clear hp hq hr
  have cf := fun w => fault23_any (a : Int) w
  rw [if_neg (by omega)] at cf
  have CF := Lib.hid cf
  have CS := Lib.hid (fun (V : World) => same_any none none 0 0 0 [] V (PcsAt.nil V) (PcsAt.nil V) (by decide))
  have ha0 : (0 : Int) ≤ a := by omega
  have hd0 : decide ((0 : Int) ≤ (a : Int)) = true := by simp
  clear cf
  go_enter Try.func6, Try.ntmps6
  go_upto_region 5 with (first | (go_at_call 23; refine (HP.out _).mono ?_; rintro e w1 ⟨rfl, hb1⟩) | (go_at_call 24; refine (HQ.out _).mono ?_; rintro e w2 ⟨rfl, hb2⟩))
  have hal : Below w1.heap.size w1 (w1.alloc (.cells #[.int .i64 1, .int .i64 a] 42)) := (Below.refl _ _).alloc (Nat.le_refl _) _
  have hfx := block_below (at_a0 w1 #[.int .i64 1, .int .i64 a] 42) hb2
  have c0 := cell_at (j := 0) hfx
  have c1 := cell_at (j := 1) hfx
  simp only [List.getElem?_toArray, List.getElem?_cons_zero, List.getElem?_cons_succ] at c0 c1
  have hxb : w1.heap.size < w2.heap.size := (Array.getElem?_eq_some_iff.1 hfx).1
  have HB2 := Lib.hid (nextB (nextB hb1 hal) hb2)
  have CS := Lib.hid (fun w' (h : Below w2.heap.size w2 w') => CS.out w')
  clear hal hb1 hb2
  generalize w1.heap.size = xb at *
  clear HP HQ hfx
  first | (go_region_with (first | (go_at_call 22; refine (awake24' _).mono ?_; rintro e w3 ⟨rfl, hb3⟩; have k3 := Lib.hid (show Below w2.heap.size w2 w3 from ⟨hb3.os, hb3.tape, hb3.output, hb3.size, hb3.block⟩); have x3 := ((bcell k3.out).1 xb 0 hxb).trans c0; have y3 := ((bcell k3.out).1 xb 1 hxb).trans c1; clear hb3) | (go_at_call 25; refine (CF.out _).mono ?_; rintro e w4 ⟨rfl, hb4⟩; have k4 := Lib.hid (nextB k3.out (show Below w3.heap.size w3 w4 from ⟨hb4.os, hb4.tape, hb4.output, hb4.size, hb4.block⟩)); have x4 := ((bcell k4.out).1 xb 0 hxb).trans c0; have y4 := ((bcell k4.out).1 xb 1 hxb).trans c1; clear hb4) | (go_at_call 26; refine (CS.out _ (show Below w2.heap.size w2 _ from ⟨k4.out.os, k4.out.tape, k4.out.output, k4.out.size, k4.out.block⟩)).mono ?_; rintro e w5 ⟨rfl, hb5⟩; have k5 := Lib.hid (nextB k4.out (show Below w4.heap.size w4 w5 from ⟨hb5.os, hb5.tape, hb5.output, hb5.size, hb5.block⟩)); have x5 := ((bcell k5.out).1 xb 0 hxb).trans c0; have y5 := ((bcell k5.out).1 xb 1 hxb).trans c1; clear hb5))) | fail
  all_goals go_wp2
  all_goals go_ret
  all_goals exact ⟨rfl, below_eq (nextB HB2.out k5.out) rfl rfl rfl rfl⟩

set_option maxHeartbeats 4000000 in
set_option maxRecDepth 100000 in
theorem sreads_ok (t : List UInt8) (w : World) (ht : ¬ (2000 : Int) < t.length) (cnt : Nat) (acc : List Pc) (hr : readS t = .ok (cnt, acc)) :
    Calls Try.prog 6 #[.string ⟨t.toArray⟩] w fun e w' => e = .returned (.bool true) ∧ Below w.heap.size w w' := by
  have hp := fun w => sparse_any t w (by omega)
  have hq := fun w => rparse_any t w (by omega)
  unfold ParseSays at hp
  unfold RParseSays at hq
  rw [hr] at hp hq
  simp only at hp hq
  have hcnt := read_count t cnt acc hr
  have htx := read_text t cnt acc hr
  unfold pcsT at htx
  have HP := Lib.hid hp
  have HQ := Lib.hid hq
  clear hp hq hr
  have cf := fun w => fault23_any (-1) w
  rw [if_pos (by decide)] at cf
  have CF := Lib.hid cf
  clear cf
  go_enter Try.func6, Try.ntmps6
  go_upto_region 5 with (first | (go_at_call 23; refine (HP.out _).mono ?_; rintro e w1 ⟨v1, rfl, hr1, hb1⟩; obtain ⟨a1, cap1, rfl, hcap1, hp1⟩ := pcs_at hr1) | (go_at_call 24; refine (HQ.out _).mono ?_; rintro e w2 ⟨v2, rfl, hr2, hb2⟩; obtain ⟨a2, cap2, rfl, hcap2, hp2⟩ := pcs_at hr2))
  have hal : Below w1.heap.size w1 (w1.alloc (.cells #[.int .i64 0, .int .i64 0] 42)) := (Below.refl _ _).alloc (Nat.le_refl _) _
  have hfx := block_below (at_a0 w1 #[.int .i64 0, .int .i64 0] 42) hb2
  have c0 := cell_at (j := 0) hfx
  have c1 := cell_at (j := 1) hfx
  simp only [List.getElem?_toArray, List.getElem?_cons_zero, List.getElem?_cons_succ] at c0 c1
  have hxb : w1.heap.size < w2.heap.size := (Array.getElem?_eq_some_iff.1 hfx).1
  have HB2 := Lib.hid (nextB (nextB hb1 hal) hb2)
  have hp3 := (hp1.below hal).below hb2
  have CS := Lib.hid (fun w' (h : Below w2.heap.size w2 w') => same_any a1 a2 acc.length cap1 cap2 acc w' (hp3.below h) (hp2.below h) (by omega))
  have cw := fun w' (h : Below w2.heap.size w2 w') => whole_any a1 acc.length cap1 acc w' (hp3.below h) (by omega) hcap1 (by rw [htx]; omega)
  rw [htx] at cw
  have CW := Lib.hid cw
  clear hal hb1 hb2 hp1 hp2 hp3 cw hr1 hr2 htx
  generalize w1.heap.size = xb at *
  clear HP HQ hfx
  go_region_held3 (fun w' => w'.cell? ⟨xb, 0, none⟩ = some (.int .i64 0) ∧ w'.cell? ⟨xb, 1, none⟩ = some (.int .i64 0)) (go_keep)
    (first | (go_at_call 22; refine (awake24' _).mono ?_; rintro e w3 ⟨rfl, hb3⟩; have k3 := Lib.hid (show Below w2.heap.size w2 w3 from ⟨hb3.os, hb3.tape, hb3.output, hb3.size, hb3.block⟩); have x3 := (bcell k3.out).1 xb 0 hxb; have y3 := (bcell k3.out).1 xb 1 hxb; clear hb3) | (go_at_call 25; refine (CF.out _).mono ?_; rintro e w4 ⟨rfl, hb4⟩; have k4 := Lib.hid (nextB k3.out (show Below w3.heap.size w3 w4 from ⟨hb4.os, hb4.tape, hb4.output, hb4.size, hb4.block⟩)); have x4 := (bcell k4.out).1 xb 0 hxb; have y4 := (bcell k4.out).1 xb 1 hxb; clear hb4) | (go_at_call 26; refine (CS.out _ (show Below w2.heap.size w2 _ from ⟨k4.out.os, k4.out.tape, k4.out.output, k4.out.size, k4.out.block⟩)).mono ?_; rintro e w5 ⟨rfl, hb5⟩; have k5 := Lib.hid (nextB k4.out (show Below w4.heap.size w4 w5 from ⟨hb5.os, hb5.tape, hb5.output, hb5.size, hb5.block⟩)); have x5 := (bcell k5.out).1 xb 0 hxb; have y5 := (bcell k5.out).1 xb 1 hxb; clear hb5) | (go_at_call 13; refine (CW.out _ (show Below w2.heap.size w2 _ from ⟨k5.out.os, k5.out.tape, k5.out.output, k5.out.size, k5.out.block⟩)).mono ?_; rintro e w6 ⟨rfl, hb6⟩; have k6 := Lib.hid (nextB k5.out (show Below w5.heap.size w5 w6 from ⟨hb6.os, hb6.tape, hb6.output, hb6.size, hb6.block⟩)); have x6 := (bcell k6.out).1 xb 0 hxb; have y6 := (bcell k6.out).1 xb 1 hxb; clear hb6))
  all_goals go_wp2
  all_goals go_ret
  all_goals exact ⟨rfl, below_eq (nextB HB2.out k6.out) rfl rfl rfl rfl⟩

theorem walk_SrtReads (t : List UInt8) (ht : t.length ≤ maxLen) (w : World) :
    Calls Try.prog 6 #[.string ⟨t.toArray⟩] w fun e w' => e = .returned (.bool true) ∧ Below w.heap.size w w' := by
  by_cases h1 : (2000 : Int) < t.length
  · exact sreads_over t w h1
  rcases hr : readS t with a | ⟨cnt, acc⟩
  · exact sreads_err t w h1 a hr
  · exact sreads_ok t w h1 cnt acc hr
end Go.Proofs.Ytemiegbgnpcbiaa
