/- Layers 13, 15: the document's readers of a number (ref13.big, ref15.one), walked. -/
import Derived.Test.YtmnmonmbdgedbaaOct6
import Derived.Test.YtmnmonmbdgedbaaFrQ
import Derived.Deep.RegionHeld3
namespace Go.Proofs.Ytmnmonmbdgedbaa
open Go.RowKit
set_option linter.unusedVariables false
set_option linter.unusedSimpArgs false

theorem rf_block_drew {w : World} {b : Nat} {o : Obj} (h : w.heap[b]? = some o) : w.drew.heap[b]? = some o := h
def RNum (m1 : Rd) (x : Nat) (w : World) (e : Ending) (w' : World) : Prop := e = .returned (.tuple #[rdV m1, .int .i64 x]) ∧ Below w.heap.size w w'
set_option maxHeartbeats 1000000 in
set_option maxRecDepth 100000 in
theorem rbig13_core (m m1 : Rd) (k x : Nat) (s : List UInt8) (w : World) (hx : (x : Int) ≤ 4294967296)
    (TK : Hid (∀ w, Calls Try.prog 68 #[rdV m, .int .i64 k] w fun e w' => e = .returned (.tuple #[rdV m1, .string ⟨s.toArray⟩]) ∧ Below w.heap.size w w'))
    (NB : Hid (∀ w, Calls Try.prog 104 #[.string ⟨s.toArray⟩] w fun e w' => e = .returned (.int .u64 x) ∧ w = w')) :
    Calls Try.prog 130 #[rdV m, .int .i64 k] w (RNum m1 x w) := by
  have wx : IntKind.i64.wrap (x : Int) = x := IntWalk.i64_in _ (by omega)
  unfold RNum
  go_enter Try.func130, Try.ntmps130
  go_upto_region 2 with (go_at_call 68; refine (TK.out _).mono ?_; rintro e w1 ⟨rfl, hb1⟩; have K := Lib.hid (below_a2 hb1); obtain ⟨_, ha2⟩ := boxes hb1; have Z := Lib.hid ha2; clear ha2 hb1)
  have F := Lib.hid (at_a0 w1 #[.string ⟨m1.t.toArray⟩, .int .i64 m1.nx, .int .i64 m1.bs, .int .i64 m1.cd, .int .i64 m1.pl] 103)
  replace Z := Lib.hid (Z.out.alloc (.cells #[.string ⟨m1.t.toArray⟩, .int .i64 m1.nx, .int .i64 m1.bs, .int .i64 m1.cd, .int .i64 m1.pl] 103))
  replace K := Lib.hid (K.out.alloc K.out.size (.cells #[.string ⟨m1.t.toArray⟩, .int .i64 m1.nx, .int .i64 m1.bs, .int .i64 m1.cd, .int .i64 m1.pl] 103))
  have hzb := Z.out.lt
  generalize w1.alloc (.cells #[.string ⟨m1.t.toArray⟩, .int .i64 m1.nx, .int .i64 m1.bs, .int .i64 m1.cd, .int .i64 m1.pl] 103) = v1 at *
  generalize w1.heap.size = fb at *
  obtain ⟨zb, hzb2⟩ : ∃ zb, zb = w.heap.size + 1 := ⟨_, rfl⟩
  rw [← hzb2]
  rw [← hzb2] at Z hzb
  have hzw : w.heap.size ≤ zb := by omega
  clear hzb2
  obtain ⟨⟨d0, d1, d2, d3, d4⟩, g0, g1, g2, g3, g4⟩ := Z.out.all
  obtain ⟨c0, c1, c2, c3, c4⟩ := cells5 (F.out)
  first | (go_region_with (go_at_call 104; refine (NB.out _).mono ?_; rintro e wx ⟨rfl, rfl⟩)) | fail
  all_goals (
    go_wp2
    simp only [Act.put, List.setIfInBounds_toArray, List.set_cons_zero, List.set_cons_succ, List.getElem_toArray, List.getElem_cons_zero, List.getElem_cons_succ]
    exact end_cell_tmp rfl rfl rfl (rf_block_drew (store5 Z.out rfl)) Try.underlying103 rfl info_ref01In ⟨rfl, (((((K.out.setCell hzw _).setCell hzw _).setCell hzw _).setCell hzw _).setCell hzw _).drew⟩)
theorem rbig13_any (m : Rd) (k : Nat) (w : World) (hm : m.Ok) (hk : k ≤ 4) : Calls Try.prog 130 #[rdV m, .int .i64 k] w (RNum (m.take k).1 (numL (m.take k).2) w) := by
  have h2 := take_len m (k : Int)
  have h3 := numL_bound (m.take (k : Int)).2
  have h4 : (256 : Nat) ^ (m.take (k : Int)).2.length ≤ 256 ^ 4 := Nat.pow_le_pow_right (by decide) (by omega)
  exact rbig13_core m _ k _ _ w (by omega) (Lib.hid fun w => rtake_any m k w hm) (Lib.hid fun w => number_any _ w (by omega))
set_option maxHeartbeats 1000000 in
set_option maxRecDepth 100000 in
theorem rone15_core (m m1 : Rd) (x : Nat) (s : List UInt8) (w : World) (hx : (x : Int) ≤ 4294967296)
    (TK : Hid (∀ w, Calls Try.prog 68 #[rdV m, .int .i64 1] w fun e w' => e = .returned (.tuple #[rdV m1, .string ⟨s.toArray⟩]) ∧ Below w.heap.size w w'))
    (NB : Hid (∀ w, Calls Try.prog 104 #[.string ⟨s.toArray⟩] w fun e w' => e = .returned (.int .u64 x) ∧ w = w')) :
    Calls Try.prog 100 #[rdV m] w (RNum m1 x w) := by
  have wx : IntKind.i64.wrap (x : Int) = x := IntWalk.i64_in _ (by omega)
  unfold RNum
  go_enter Try.func100, Try.ntmps100
  go_upto_region 2 with (go_at_call 68; refine (TK.out _).mono ?_; rintro e w1 ⟨rfl, hb1⟩; have K := Lib.hid (below_a2 hb1); obtain ⟨_, ha2⟩ := boxes hb1; have Z := Lib.hid ha2; clear ha2 hb1)
  have F := Lib.hid (at_a0 w1 #[.string ⟨m1.t.toArray⟩, .int .i64 m1.nx, .int .i64 m1.bs, .int .i64 m1.cd, .int .i64 m1.pl] 103)
  replace Z := Lib.hid (Z.out.alloc (.cells #[.string ⟨m1.t.toArray⟩, .int .i64 m1.nx, .int .i64 m1.bs, .int .i64 m1.cd, .int .i64 m1.pl] 103))
  replace K := Lib.hid (K.out.alloc K.out.size (.cells #[.string ⟨m1.t.toArray⟩, .int .i64 m1.nx, .int .i64 m1.bs, .int .i64 m1.cd, .int .i64 m1.pl] 103))
  have hzb := Z.out.lt
  generalize w1.alloc (.cells #[.string ⟨m1.t.toArray⟩, .int .i64 m1.nx, .int .i64 m1.bs, .int .i64 m1.cd, .int .i64 m1.pl] 103) = v1 at *
  generalize w1.heap.size = fb at *
  obtain ⟨zb, hzb2⟩ : ∃ zb, zb = w.heap.size + 1 := ⟨_, rfl⟩
  rw [← hzb2]
  rw [← hzb2] at Z hzb
  have hzw : w.heap.size ≤ zb := by omega
  clear hzb2
  obtain ⟨⟨d0, d1, d2, d3, d4⟩, g0, g1, g2, g3, g4⟩ := Z.out.all
  obtain ⟨c0, c1, c2, c3, c4⟩ := cells5 (F.out)
  first | (go_region_with (go_at_call 104; refine (NB.out _).mono ?_; rintro e wx ⟨rfl, rfl⟩)) | fail
  all_goals (
    go_wp2
    simp only [Act.put, List.setIfInBounds_toArray, List.set_cons_zero, List.set_cons_succ, List.getElem_toArray, List.getElem_cons_zero, List.getElem_cons_succ]
    exact end_cell_tmp rfl rfl rfl (rf_block_drew (store5 Z.out rfl)) Try.underlying103 rfl info_ref01In ⟨rfl, (((((K.out.setCell hzw _).setCell hzw _).setCell hzw _).setCell hzw _).setCell hzw _).drew⟩)
theorem rone15_any (m : Rd) (w : World) (hm : m.Ok) : Calls Try.prog 100 #[rdV m] w (RNum (m.take ((1 : Nat) : Int)).1 (numL (m.take ((1 : Nat) : Int)).2) w) := by
  have h2 := take_len m ((1 : Nat) : Int)
  have h3 := numL_bound (m.take ((1 : Nat) : Int)).2
  have h4 : (256 : Nat) ^ (m.take ((1 : Nat) : Int)).2.length ≤ 256 ^ 4 := Nat.pow_le_pow_right (by decide) (by omega)
  exact rone15_core m _ _ _ w (by omega) (Lib.hid fun w => rtake_any m ((1 : Nat) : Int) w hm) (Lib.hid fun w => number_any (m.take ((1 : Nat) : Int)).2 w (by omega))
end Go.Proofs.Ytmnmonmbdgedbaa
