/- Layer 15 (tag): the walk of the statement TagReads (printed by gen_rf12.py). -/
import Derived.Test.YtmnmonmbdgedbaaRf10
import Derived.Test.YtmnmonmbdgedbaaTgU
import Derived.Test.YtmnmonmbdgedbaaTg11
import Derived.Test.YtmnmonmbdgedbaaTg12
import Derived.Deep.RegionHeld3
namespace Go.Proofs.Ytmnmonmbdgedbaa
open Go.RowKit
set_option linter.unusedVariables false
set_option linter.unusedSimpArgs false

theorem rf_fault09 (c q : Int) (w : World) : Calls Try.prog 27 #[.int .i64 c, .int .i64 q] w fun e w' => e = .returned (.agg #[.int .i64 c, .int .i64 q]) ∧ Below w.heap.size w w' := by
  go_enter Try.func27, Try.ntmps27
  go_wp2
  exact end_cell rfl rfl rfl (at_a0 _ _ _) Try.underlying31 rfl (by kernel_rfl) ⟨rfl, (Below.refl _ _).alloc (Nat.le_refl _) _⟩
set_option maxRecDepth 100000 in
theorem rbegins_core (l : List UInt8) (x y z : Bool) (w : World) (h : (2 : Int) < l.length) (h2 : 2 < l.length) (hx : ((l[0].toNat : Int) == 73) = x) (hy : ((l[1].toNat : Int) == 68) = y) (hz : ((l[2].toNat : Int) == 51) = z) :
    Calls Try.prog 25 #[.string ⟨l.toArray⟩] w fun e w' => e = .returned (.bool (x && (y && z))) ∧ w = w' := by
  rcases x with _ | _
  · go_enter Try.func25, Try.ntmps25
    go_wp2
    go_ret
    exact ⟨rfl, rfl⟩
  · rcases y with _ | _
    · go_enter Try.func25, Try.ntmps25
      go_wp2
      go_ret
      exact ⟨rfl, rfl⟩
    · rcases z with _ | _
      all_goals (
        go_enter Try.func25, Try.ntmps25
        go_wp2
        go_ret
        exact ⟨rfl, rfl⟩)
set_option maxRecDepth 100000 in
theorem rbegins_any (l : List UInt8) (w : World) : Calls Try.prog 25 #[.string ⟨l.toArray⟩] w fun e w' => e = .returned (.bool (decide (¬ (l.length < 3 ∨ l.take 3 ≠ [73, 68, 51])))) ∧ w = w' := by
  by_cases h : (2 : Int) < l.length
  · have h2 : 2 < l.length := by omega
    have e3 : l.take 3 = [l[0], l[1], l[2]] := by
      match l, h2 with
      | a :: b :: c :: t, _ => rfl
    have key : decide (¬ (l.length < 3 ∨ l.take 3 ≠ [73, 68, 51])) = (((l[0].toNat : Int) == 73) && (((l[1].toNat : Int) == 68) && ((l[2].toNat : Int) == 51))) := by
      rw [e3, Bool.eq_iff_iff, decide_eq_true_eq, Bool.and_eq_true, Bool.and_eq_true, beq_iff_eq, beq_iff_eq, beq_iff_eq]
      have c0 := u8_eq l[0] 73
      have c1 := u8_eq l[1] 68
      have c2 := u8_eq l[2] 51
      rw [show (73 : UInt8).toNat = 73 from rfl] at c0
      rw [show (68 : UInt8).toNat = 68 from rfl] at c1
      rw [show (51 : UInt8).toNat = 51 from rfl] at c2
      have e : [l[0], l[1], l[2]] = [73, 68, 51] ↔ (l[0] = 73 ∧ l[1] = 68 ∧ l[2] = 51) := by simp
      constructor
      · intro hh
        obtain ⟨e0, e1, e2⟩ := e.1 (Classical.byContradiction fun hx => hh (.inr hx))
        have := c0.1 e0
        have := c1.1 e1
        have := c2.1 e2
        omega
      · intro ⟨g0, g1, g2⟩ hh
        rcases hh with hh | hh
        · omega
        · exact hh (e.2 ⟨c0.2 (by omega), c1.2 (by omega), c2.2 (by omega)⟩)
    rw [key]
    exact rbegins_core l _ _ _ w h h2 rfl rfl rfl
  · rw [show decide (¬ (l.length < 3 ∨ l.take 3 ≠ [73, 68, 51])) = false by rw [decide_eq_false_iff_not]; intro hh; exact hh (.inl (by omega))]
    go_enter Try.func25, Try.ntmps25
    go_wp2
    go_ret
    exact ⟨rfl, rfl⟩
def TPw (v : Int) (rv fl : UInt8) (n : Nat) (fs : List Fr) (rest : List UInt8) (c q : Int) (w : World) (e : Ending) (w' : World) : Prop :=
  ∃ a cap, e = .returned (.tuple #[.agg #[.int .i64 v, .int .u8 rv.toNat, .int .u8 fl.toNat, .slice a n cap], .string ⟨rest.toArray⟩, .agg #[.int .i64 c, .int .i64 q]]) ∧ RecsAt w' a n 6 (fs.map frR) ∧ Below w.heap.size w w'
theorem tpw_of (t : Tg) (rest : List UInt8) (c q : Int) (n : Nat) (hn : t.fs.length = n) (w w' : World) (e : Ending) (h : TParse t rest c q w e w') : TPw t.v t.rv t.fl n t.fs rest c q w e w' := by
  obtain ⟨u, rfl, hr, hb⟩ := h
  obtain ⟨a, cp, rfl, _, hat⟩ := hr.at
  have e : (t.fs.map frR).length = n := by simpa using hn
  rw [e] at hat
  exact ⟨a, cp, by rw [e], hat, hb⟩
def RPw (v : Int) (rv fl : UInt8) (n : Nat) (fs : List Fr) (rest : List UInt8) (c q : Int) (w : World) (e : Ending) (w' : World) : Prop :=
  ∃ a2 cap2, e = .returned (.tuple #[.agg #[.int .i64 v, .int .i64 rv.toNat, .int .i64 fl.toNat, .slice a2 n cap2], .string ⟨rest.toArray⟩, .int .i64 c, .int .i64 q]) ∧ RecsAt w' a2 n 6 (fs.map rfR) ∧ Below w.heap.size w w'
theorem rpw_of (t : Tg) (rest : List UInt8) (c q : Int) (n : Nat) (hn : t.fs.length = n) (w w' : World) (e : Ending) (h : RTP t.v t.rv.toNat t.fl.toNat t.fs rest c q w e w') : RPw t.v t.rv t.fl n t.fs rest c q w e w' := by
  obtain ⟨u, rfl, hr, hb⟩ := h
  obtain ⟨a, cp, rfl, _, hat⟩ := hr.at
  have e : (t.fs.map rfR).length = n := by simpa using hn
  rw [e] at hat
  exact ⟨a, cp, by rw [e], hat, hb⟩
set_option maxRecDepth 100000 in
theorem treads_over (l : List UInt8) (w : World) (h : (2000 : Int) < l.length) : Calls Try.prog 6 #[.string ⟨l.toArray⟩] w fun e w' => e = .returned (.bool true) ∧ Below w.heap.size w w' := by
  go_enter Try.func6, Try.ntmps6
  go_wp2_with (go_at_call 21; refine (awake15' _).mono ?_; rintro e w1 ⟨rfl, hb1⟩)
  go_ret
  exact ⟨rfl, hb1⟩
set_option maxHeartbeats 8000000 in
set_option maxRecDepth 100000 in
theorem treads_none (l : List UInt8) (w : World) (h : ¬ (2000 : Int) < l.length)
    (BG : Hid (∀ w, Calls Try.prog 25 #[.string ⟨l.toArray⟩] w fun e w' => e = .returned (.bool false) ∧ w = w'))
    (PA : Hid (∀ w, Calls Try.prog 17 #[.string ⟨l.toArray⟩] w (TPw 0 0 0 0 [] l 0 0 w))) :
    Calls Try.prog 6 #[.string ⟨l.toArray⟩] w fun e w' => e = .returned (.bool true) ∧ Below w.heap.size w w' := by
  have BD := Lib.hid (fun w => bad_any 0 0 w)
  rw [show ((0 : Int) != 0) = false by rfl] at BD
  unfold TPw at PA
  go_enter Try.func6, Try.ntmps6
  go_upto_region 4 with (go_at_call 17; (with_reducible refine (PA.out _).mono ?_); rintro e w1 ⟨a, cap, rfl, hv, hb1⟩; have K := Lib.hid hb1; have V := Lib.hid hv; clear hv hb1)
  have X := Lib.hid (at_a1 w1 #[.int .i64 0, .int .u8 0, .int .u8 0, .slice a 0 cap] 26 (.cells #[.int .i64 0, .int .i64 0] 31))
  have F := Lib.hid (at_a2 w1 #[.int .i64 0, .int .i64 0] 31 (.cells #[.int .i64 0, .int .u8 0, .int .u8 0, .slice a 0 cap] 26))
  have hB := (((Below.refl w1.heap.size w1).alloc (Nat.le_refl _) (.cells #[.int .i64 0, .int .u8 0, .int .u8 0, .slice a 0 cap] 26)).alloc (by simp) (.cells #[.int .i64 0, .int .i64 0] 31))
  replace V := Lib.hid (V.out.below hB)
  replace K := Lib.hid (nextB K.out hB)
  clear hB
  generalize (w1.alloc (.cells #[.int .i64 0, .int .u8 0, .int .u8 0, .slice a 0 cap] 26)).alloc (.cells #[.int .i64 0, .int .i64 0] 31) = wr at *
  obtain ⟨fb, hfb⟩ : ∃ fb, fb = w1.heap.size + 1 := ⟨_, rfl⟩
  rw [← hfb]
  rw [← hfb] at F
  clear hfb
  generalize w1.heap.size = xb at *
  obtain ⟨x0, x1, x2, x3⟩ := cells4 (X.out)
  obtain ⟨f0, f1⟩ := cells2 (F.out)
  go_wp2_with (first | (go_at_call 25; (with_reducible refine (BG.out _).mono ?_); rintro e wx ⟨rfl, rfl⟩) | (go_at_call 21; (with_reducible refine (awake15' _).mono ?_); rintro e w4 ⟨rfl, hb4⟩; replace X := Lib.hid (block_below X.out (hb4)); replace F := Lib.hid (block_below F.out (hb4)); replace V := Lib.hid (V.out.below (hb4)); replace K := Lib.hid (nextB K.out (hb4)); clear hb4; obtain ⟨y0, y1, y2, y3⟩ := cells4 (X.out); obtain ⟨g0, g1⟩ := cells2 (F.out)) | (go_at_call 20; refine (tof_any 0 0 0 a 0 cap [] _ V (by decide)).mono ?_; rintro e w5 ⟨oa, oc, rfl, ho, hb5⟩; have HO1 := Lib.hid ho; clear ho; replace X := Lib.hid (block_below X.out (hb5)); replace F := Lib.hid (block_below F.out (hb5)); replace K := Lib.hid (nextB K.out (hb5)); clear hb5) | (go_at_call 19; refine (tsame_yes 0 (0 : UInt8).toNat (0 : UInt8).toNat oa none 0 oc 0 [] [] true _ HO1 (Lib.hid (tgo_recs_atv (Recs.nil _ 0 0 6))) (by decide) (Lib.hid rfl)).mono ?_; rintro e w6 ⟨rfl, hb6⟩; replace X := Lib.hid (block_below X.out (hb6)); replace F := Lib.hid (block_below F.out (hb6)); replace K := Lib.hid (nextB K.out (hb6)); clear hb6; obtain ⟨z0, z1⟩ := cells2 (F.out)) | (go_at_call 16; (with_reducible refine (BD.out _).mono ?_); rintro e w7 ⟨rfl, hb7⟩; replace X := Lib.hid (block_below X.out (hb7)); replace K := Lib.hid (nextB K.out (hb7)); clear hb7))
  go_ret
  exact ⟨rfl, K.out⟩
set_option maxHeartbeats 16000000 in
set_option maxRecDepth 100000 in
theorem treads_in (l rest : List UInt8) (v : Int) (rv fl : UInt8) (n : Nat) (fs : List Fr) (c q : Int) (ft : Bool) (w : World) (h : ¬ (2000 : Int) < l.length) (hn : n ≤ 1000000)
    (BG : Hid (∀ w, Calls Try.prog 25 #[.string ⟨l.toArray⟩] w fun e w' => e = .returned (.bool true) ∧ w = w'))
    (PA : Hid (∀ w, Calls Try.prog 17 #[.string ⟨l.toArray⟩] w (TPw v rv fl n fs rest c q w)))
    (PR : Hid (∀ w, Calls Try.prog 26 #[.string ⟨l.toArray⟩] w (RPw v rv fl n fs rest c q w)))
    (SP : Hid (∀ w, Calls Try.prog 23 #[.agg #[.int .i64 v, .int .u8 rv.toNat, .int .u8 fl.toNat]] w fun e w' => e = .returned (.bool (decide ((128 : Int) ≤ (fl.toNat : Int)))) ∧ Below w.heap.size w w'))
    (FT : Hid (∀ w, Calls Try.prog 22 #[.agg #[.int .i64 v, .int .u8 rv.toNat, .int .u8 fl.toNat]] w fun e w' => e = .returned (.bool ft) ∧ Below w.heap.size w w'))
    (hft : Hid ((v == 4) = true ∧ Hid (∀ w, Calls Try.prog 28 #[.int .i64 fl.toNat, .int .i64 16] w fun e w' => e = .returned (.bool ft) ∧ w = w') ∨ (v == 4) = false ∧ ft = false)) :
    Calls Try.prog 6 #[.string ⟨l.toArray⟩] w fun e w' => e = .returned (.bool true) ∧ Below w.heap.size w w' := by
  have F9 := Lib.hid (fun w => rf_fault09 c q w)
  unfold TPw at PA
  unfold RPw at PR
  go_enter Try.func6, Try.ntmps6
  go_upto_region 4 with (go_at_call 17; (with_reducible refine (PA.out _).mono ?_); rintro e w1 ⟨a, cap, rfl, hv, hb1⟩; have K := Lib.hid hb1; have V := Lib.hid hv; clear hv hb1)
  have X := Lib.hid (at_a1 w1 #[.int .i64 v, .int .u8 rv.toNat, .int .u8 fl.toNat, .slice a n cap] 26 (.cells #[.int .i64 c, .int .i64 q] 31))
  have F := Lib.hid (at_a2 w1 #[.int .i64 c, .int .i64 q] 31 (.cells #[.int .i64 v, .int .u8 rv.toNat, .int .u8 fl.toNat, .slice a n cap] 26))
  have hB := (((Below.refl w1.heap.size w1).alloc (Nat.le_refl _) (.cells #[.int .i64 v, .int .u8 rv.toNat, .int .u8 fl.toNat, .slice a n cap] 26)).alloc (by simp) (.cells #[.int .i64 c, .int .i64 q] 31))
  replace V := Lib.hid (V.out.below hB)
  replace K := Lib.hid (nextB K.out hB)
  clear hB
  generalize (w1.alloc (.cells #[.int .i64 v, .int .u8 rv.toNat, .int .u8 fl.toNat, .slice a n cap] 26)).alloc (.cells #[.int .i64 c, .int .i64 q] 31) = v1 at *
  obtain ⟨fb, hfb⟩ : ∃ fb, fb = w1.heap.size + 1 := ⟨_, rfl⟩
  rw [← hfb]
  rw [← hfb] at F
  clear hfb
  generalize w1.heap.size = xb at *
  go_upto_region 7 with (first | (go_at_call 25; (with_reducible refine (BG.out _).mono ?_); rintro e wx ⟨rfl, rfl⟩) | (go_at_call 26; (with_reducible refine (PR.out _).mono ?_); rintro e w2 ⟨a2, cap2, rfl, hv, hb2⟩; replace X := Lib.hid (block_below X.out (hb2)); replace F := Lib.hid (block_below F.out (hb2)); replace V := Lib.hid (V.out.below (hb2)); replace K := Lib.hid (nextB K.out (hb2)); clear hb2; have U := Lib.hid hv; clear hv))
  have Y := Lib.hid (at_a0 w2 #[.int .i64 v, .int .i64 rv.toNat, .int .i64 fl.toNat, .slice a2 n cap2] 40)
  have hB := ((Below.refl w2.heap.size w2).alloc (Nat.le_refl _) (.cells #[.int .i64 v, .int .i64 rv.toNat, .int .i64 fl.toNat, .slice a2 n cap2] 40))
  replace V := Lib.hid (V.out.below hB)
  replace U := Lib.hid (U.out.below hB)
  replace X := Lib.hid (block_below X.out hB)
  replace F := Lib.hid (block_below F.out hB)
  replace K := Lib.hid (nextB K.out hB)
  clear hB
  generalize w2.alloc (.cells #[.int .i64 v, .int .i64 rv.toNat, .int .i64 fl.toNat, .slice a2 n cap2] 40) = wr at *
  generalize w2.heap.size = yb at *
  have KK : Hid (Below wr.heap.size wr wr.drew) := Lib.hid (Below.refl wr.heap.size wr).drew
  have cc : wr.cell? ⟨xb, 0, none⟩ = some (.int .i64 v) ∧ wr.cell? ⟨xb, 1, none⟩ = some (.int .u8 rv.toNat) ∧ wr.cell? ⟨xb, 2, none⟩ = some (.int .u8 fl.toNat) ∧ wr.cell? ⟨xb, 3, none⟩ = some (.slice a n cap) ∧ wr.cell? ⟨fb, 0, none⟩ = some (.int .i64 c) ∧ wr.cell? ⟨fb, 1, none⟩ = some (.int .i64 q) ∧ wr.cell? ⟨yb, 0, none⟩ = some (.int .i64 v) ∧ wr.cell? ⟨yb, 1, none⟩ = some (.int .i64 rv.toNat) ∧ wr.cell? ⟨yb, 2, none⟩ = some (.int .i64 fl.toNat) ∧ wr.cell? ⟨yb, 3, none⟩ = some (.slice a2 n cap2) := ⟨cell_at (j := 0) (X.out), cell_at (j := 1) (X.out), cell_at (j := 2) (X.out), cell_at (j := 3) (X.out), cell_at (j := 0) (F.out), cell_at (j := 1) (F.out), cell_at (j := 0) (Y.out), cell_at (j := 1) (Y.out), cell_at (j := 2) (Y.out), cell_at (j := 3) (Y.out)⟩
  have xx : (wr.drew).cell? ⟨xb, 0, none⟩ = some (.int .i64 v) ∧ (wr.drew).cell? ⟨xb, 1, none⟩ = some (.int .u8 rv.toNat) ∧ (wr.drew).cell? ⟨xb, 2, none⟩ = some (.int .u8 fl.toNat) ∧ (wr.drew).cell? ⟨xb, 3, none⟩ = some (.slice a n cap) ∧ (wr.drew).cell? ⟨fb, 0, none⟩ = some (.int .i64 c) ∧ (wr.drew).cell? ⟨fb, 1, none⟩ = some (.int .i64 q) ∧ (wr.drew).cell? ⟨yb, 0, none⟩ = some (.int .i64 v) ∧ (wr.drew).cell? ⟨yb, 1, none⟩ = some (.int .i64 rv.toNat) ∧ (wr.drew).cell? ⟨yb, 2, none⟩ = some (.int .i64 fl.toNat) ∧ (wr.drew).cell? ⟨yb, 3, none⟩ = some (.slice a2 n cap2) := cc
  clear cc
  rcases hft.out with ⟨h4, BT⟩ | ⟨h4, rfl⟩
  · skip
    refine wp_region_noPanic ?_
    refine wp_region_held_drew (S := fun w' => w'.cell? ⟨xb, 0, none⟩ = some (.int .i64 v) ∧ w'.cell? ⟨xb, 1, none⟩ = some (.int .u8 rv.toNat) ∧ w'.cell? ⟨xb, 2, none⟩ = some (.int .u8 fl.toNat) ∧ w'.cell? ⟨xb, 3, none⟩ = some (.slice a n cap) ∧ w'.cell? ⟨fb, 0, none⟩ = some (.int .i64 c) ∧ w'.cell? ⟨fb, 1, none⟩ = some (.int .i64 q) ∧ w'.cell? ⟨yb, 0, none⟩ = some (.int .i64 v) ∧ w'.cell? ⟨yb, 1, none⟩ = some (.int .i64 rv.toNat) ∧ w'.cell? ⟨yb, 2, none⟩ = some (.int .i64 fl.toNat) ∧ w'.cell? ⟨yb, 3, none⟩ = some (.slice a2 n cap2)) (by kernel_rfl) xx (fun hHeld => ?_)
    clear hHeld
    try simp only [Act.put, List.setIfInBounds_toArray, List.set_cons_zero, List.set_cons_succ, List.getElem_toArray, List.getElem_cons_zero, List.getElem_cons_succ]
    refine wpAnyH_ready (rs := [0]) (by kernel_rfl) (by simp) ?_
    refine AllReadyH.cons rfl (fun K hK => ?_) AllReadyH.nil
    go_simp
    (go_at_call 21; refine (awake15' _).mono ?_; rintro e wq ⟨rfl, hbq⟩; replace KK := Lib.hid (nextB KK.out hbq); have xx : wq.cell? ⟨xb, 0, none⟩ = some (.int .i64 v) ∧ wq.cell? ⟨xb, 1, none⟩ = some (.int .u8 rv.toNat) ∧ wq.cell? ⟨xb, 2, none⟩ = some (.int .u8 fl.toNat) ∧ wq.cell? ⟨xb, 3, none⟩ = some (.slice a n cap) ∧ wq.cell? ⟨fb, 0, none⟩ = some (.int .i64 c) ∧ wq.cell? ⟨fb, 1, none⟩ = some (.int .i64 q) ∧ wq.cell? ⟨yb, 0, none⟩ = some (.int .i64 v) ∧ wq.cell? ⟨yb, 1, none⟩ = some (.int .i64 rv.toNat) ∧ wq.cell? ⟨yb, 2, none⟩ = some (.int .i64 fl.toNat) ∧ wq.cell? ⟨yb, 3, none⟩ = some (.slice a2 n cap2) := ⟨cell_at (j := 0) (block_below X.out KK.out), cell_at (j := 1) (block_below X.out KK.out), cell_at (j := 2) (block_below X.out KK.out), cell_at (j := 3) (block_below X.out KK.out), cell_at (j := 0) (block_below F.out KK.out), cell_at (j := 1) (block_below F.out KK.out), cell_at (j := 0) (block_below Y.out KK.out), cell_at (j := 1) (block_below Y.out KK.out), cell_at (j := 2) (block_below Y.out KK.out), cell_at (j := 3) (block_below Y.out KK.out)⟩; clear hbq; (try replace HO1 := Lib.hid (HO1.out.below (Below.refl _ _))))
    refine hK.out _ _ xx (fun hHeld => ?_)
    clear hK K hHeld
    try simp only [Act.put, List.setIfInBounds_toArray, List.set_cons_zero, List.set_cons_succ, List.getElem_toArray, List.getElem_cons_zero, List.getElem_cons_succ]
    refine wpAnyH_take (i := 1) (v := ?va1) rfl (by kernel_rfl) (by kernel_rfl) (by kernel_rfl) (fun _ _ _ h => h) (Or.inl ⟨by rfl, ?hya1⟩) xx ?ra1
    case hya1 => (intro w hSw; (try dsimp only at hSw); go_simp; first | done | with_reducible rfl)
    try simp only [Act.put, List.setIfInBounds_toArray, List.set_cons_zero, List.set_cons_succ, List.getElem_toArray, List.getElem_cons_zero, List.getElem_cons_succ]
    refine wpAnyH_take (i := 2) (v := ?va2) rfl (by kernel_rfl) (by kernel_rfl) (by kernel_rfl) (fun _ _ _ h => h) (Or.inl ⟨by rfl, ?hya2⟩) xx ?ra2
    case hya2 => (intro w hSw; (try dsimp only at hSw); go_simp; first | done | with_reducible rfl)
    try simp only [Act.put, List.setIfInBounds_toArray, List.set_cons_zero, List.set_cons_succ, List.getElem_toArray, List.getElem_cons_zero, List.getElem_cons_succ]
    refine wpAnyH_take (i := 3) (v := ?va3) rfl (by kernel_rfl) (by kernel_rfl) (by kernel_rfl) (fun _ _ _ h => h) (Or.inl ⟨by rfl, ?hya3⟩) xx ?ra3
    case hya3 => (intro w hSw; (try dsimp only at hSw); go_simp; first | done | with_reducible rfl)
    try simp only [Act.put, List.setIfInBounds_toArray, List.set_cons_zero, List.set_cons_succ, List.getElem_toArray, List.getElem_cons_zero, List.getElem_cons_succ]
    refine wpAnyH_take (i := 4) (v := ?va4) rfl (by kernel_rfl) (by kernel_rfl) (by kernel_rfl) (fun _ _ _ h => h) (Or.inl ⟨by rfl, ?hya4⟩) xx ?ra4
    case hya4 => (intro w hSw; (try dsimp only at hSw); go_simp; first | done | with_reducible rfl)
    try simp only [Act.put, List.setIfInBounds_toArray, List.set_cons_zero, List.set_cons_succ, List.getElem_toArray, List.getElem_cons_zero, List.getElem_cons_succ]
    refine wpAnyH_ready (rs := [5]) (by kernel_rfl) (by simp) ?_
    refine AllReadyH.cons rfl (fun K hK => ?_) AllReadyH.nil
    go_simp
    (go_at_call 27; (with_reducible refine (F9.out _).mono ?_); rintro e wq ⟨rfl, hbq⟩; replace KK := Lib.hid (nextB KK.out hbq); have xx : wq.cell? ⟨xb, 0, none⟩ = some (.int .i64 v) ∧ wq.cell? ⟨xb, 1, none⟩ = some (.int .u8 rv.toNat) ∧ wq.cell? ⟨xb, 2, none⟩ = some (.int .u8 fl.toNat) ∧ wq.cell? ⟨xb, 3, none⟩ = some (.slice a n cap) ∧ wq.cell? ⟨fb, 0, none⟩ = some (.int .i64 c) ∧ wq.cell? ⟨fb, 1, none⟩ = some (.int .i64 q) ∧ wq.cell? ⟨yb, 0, none⟩ = some (.int .i64 v) ∧ wq.cell? ⟨yb, 1, none⟩ = some (.int .i64 rv.toNat) ∧ wq.cell? ⟨yb, 2, none⟩ = some (.int .i64 fl.toNat) ∧ wq.cell? ⟨yb, 3, none⟩ = some (.slice a2 n cap2) := ⟨cell_at (j := 0) (block_below X.out KK.out), cell_at (j := 1) (block_below X.out KK.out), cell_at (j := 2) (block_below X.out KK.out), cell_at (j := 3) (block_below X.out KK.out), cell_at (j := 0) (block_below F.out KK.out), cell_at (j := 1) (block_below F.out KK.out), cell_at (j := 0) (block_below Y.out KK.out), cell_at (j := 1) (block_below Y.out KK.out), cell_at (j := 2) (block_below Y.out KK.out), cell_at (j := 3) (block_below Y.out KK.out)⟩; clear hbq; (try replace HO1 := Lib.hid (HO1.out.below (Below.refl _ _))))
    refine hK.out _ _ xx (fun hHeld => ?_)
    clear hK K hHeld
    try simp only [Act.put, List.setIfInBounds_toArray, List.set_cons_zero, List.set_cons_succ, List.getElem_toArray, List.getElem_cons_zero, List.getElem_cons_succ]
    refine wpAnyH_take (i := 6) (v := ?va6) rfl (by kernel_rfl) (by kernel_rfl) (by kernel_rfl) (fun _ _ _ h => h) (Or.inl ⟨by rfl, ?hya6⟩) xx ?ra6
    case hya6 => (intro w hSw; (try dsimp only at hSw); go_simp; first | done | with_reducible rfl)
    try simp only [Act.put, List.setIfInBounds_toArray, List.set_cons_zero, List.set_cons_succ, List.getElem_toArray, List.getElem_cons_zero, List.getElem_cons_succ]
    refine wpAnyH_take (i := 7) (v := ?va7) rfl (by kernel_rfl) (by kernel_rfl) (by kernel_rfl) (fun _ _ _ h => h) (Or.inl ⟨by rfl, ?hya7⟩) xx ?ra7
    case hya7 => (intro w hSw; (try dsimp only at hSw); go_simp; first | done | with_reducible rfl)
    try simp only [Act.put, List.setIfInBounds_toArray, List.set_cons_zero, List.set_cons_succ, List.getElem_toArray, List.getElem_cons_zero, List.getElem_cons_succ]
    refine wpAnyH_take (i := 8) (v := ?va8) rfl (by kernel_rfl) (by kernel_rfl) (by kernel_rfl) (fun _ _ _ h => h) (Or.inl ⟨by rfl, ?hya8⟩) xx ?ra8
    case hya8 => (intro w hSw; (try dsimp only at hSw); go_simp; first | done | with_reducible rfl)
    try simp only [Act.put, List.setIfInBounds_toArray, List.set_cons_zero, List.set_cons_succ, List.getElem_toArray, List.getElem_cons_zero, List.getElem_cons_succ]
    refine wpAnyH_take (i := 9) (v := ?va9) rfl (by kernel_rfl) (by kernel_rfl) (by kernel_rfl) (fun _ _ _ h => h) (Or.inl ⟨by rfl, ?hya9⟩) xx ?ra9
    case hya9 => (intro w hSw; (try dsimp only at hSw); go_simp; first | done | with_reducible rfl)
    try simp only [Act.put, List.setIfInBounds_toArray, List.set_cons_zero, List.set_cons_succ, List.getElem_toArray, List.getElem_cons_zero, List.getElem_cons_succ]
    refine wpAnyH_take (i := 11) (v := ?va11) rfl (by kernel_rfl) (by kernel_rfl) (by kernel_rfl) (fun _ _ _ h => h) (Or.inl ⟨by rfl, ?hya11⟩) xx ?ra11
    case hya11 => (intro w hSw; (try dsimp only at hSw); go_simp; first | done | with_reducible rfl)
    try simp only [Act.put, List.setIfInBounds_toArray, List.set_cons_zero, List.set_cons_succ, List.getElem_toArray, List.getElem_cons_zero, List.getElem_cons_succ]
    refine wpAnyH_ready (rs := [10]) (by kernel_rfl) (by simp) ?_
    refine AllReadyH.cons rfl (fun K hK => ?_) AllReadyH.nil
    go_simp
    (go_at_call 20; (with_reducible refine (tof_any v rv fl a n cap fs _ (Lib.hid (V.out.below KK.out)) hn).mono ?_); rintro e wq ⟨oa, oc, rfl, ho, hbq⟩; replace KK := Lib.hid (nextB KK.out hbq); have xx : wq.cell? ⟨xb, 0, none⟩ = some (.int .i64 v) ∧ wq.cell? ⟨xb, 1, none⟩ = some (.int .u8 rv.toNat) ∧ wq.cell? ⟨xb, 2, none⟩ = some (.int .u8 fl.toNat) ∧ wq.cell? ⟨xb, 3, none⟩ = some (.slice a n cap) ∧ wq.cell? ⟨fb, 0, none⟩ = some (.int .i64 c) ∧ wq.cell? ⟨fb, 1, none⟩ = some (.int .i64 q) ∧ wq.cell? ⟨yb, 0, none⟩ = some (.int .i64 v) ∧ wq.cell? ⟨yb, 1, none⟩ = some (.int .i64 rv.toNat) ∧ wq.cell? ⟨yb, 2, none⟩ = some (.int .i64 fl.toNat) ∧ wq.cell? ⟨yb, 3, none⟩ = some (.slice a2 n cap2) := ⟨cell_at (j := 0) (block_below X.out KK.out), cell_at (j := 1) (block_below X.out KK.out), cell_at (j := 2) (block_below X.out KK.out), cell_at (j := 3) (block_below X.out KK.out), cell_at (j := 0) (block_below F.out KK.out), cell_at (j := 1) (block_below F.out KK.out), cell_at (j := 0) (block_below Y.out KK.out), cell_at (j := 1) (block_below Y.out KK.out), cell_at (j := 2) (block_below Y.out KK.out), cell_at (j := 3) (block_below Y.out KK.out)⟩; clear hbq; (try replace HO1 := Lib.hid (HO1.out.below (Below.refl _ _))); have HO1 := Lib.hid ho; clear ho)
    refine hK.out _ _ xx (fun hHeld => ?_)
    clear hK K hHeld
    try simp only [Act.put, List.setIfInBounds_toArray, List.set_cons_zero, List.set_cons_succ, List.getElem_toArray, List.getElem_cons_zero, List.getElem_cons_succ]
    refine wpAnyH_ready (rs := [12]) (by kernel_rfl) (by simp) ?_
    refine AllReadyH.cons rfl (fun K hK => ?_) AllReadyH.nil
    go_simp
    (go_at_call 19; (with_reducible refine (tsame_yes v rv.toNat fl.toNat oa a2 n oc cap2 fs fs true _ HO1 (Lib.hid (U.out.below KK.out)) hn (Lib.hid rfl)).mono ?_); rintro e wq ⟨rfl, hbq⟩; replace KK := Lib.hid (nextB KK.out hbq); have xx : wq.cell? ⟨xb, 0, none⟩ = some (.int .i64 v) ∧ wq.cell? ⟨xb, 1, none⟩ = some (.int .u8 rv.toNat) ∧ wq.cell? ⟨xb, 2, none⟩ = some (.int .u8 fl.toNat) ∧ wq.cell? ⟨xb, 3, none⟩ = some (.slice a n cap) ∧ wq.cell? ⟨fb, 0, none⟩ = some (.int .i64 c) ∧ wq.cell? ⟨fb, 1, none⟩ = some (.int .i64 q) ∧ wq.cell? ⟨yb, 0, none⟩ = some (.int .i64 v) ∧ wq.cell? ⟨yb, 1, none⟩ = some (.int .i64 rv.toNat) ∧ wq.cell? ⟨yb, 2, none⟩ = some (.int .i64 fl.toNat) ∧ wq.cell? ⟨yb, 3, none⟩ = some (.slice a2 n cap2) := ⟨cell_at (j := 0) (block_below X.out KK.out), cell_at (j := 1) (block_below X.out KK.out), cell_at (j := 2) (block_below X.out KK.out), cell_at (j := 3) (block_below X.out KK.out), cell_at (j := 0) (block_below F.out KK.out), cell_at (j := 1) (block_below F.out KK.out), cell_at (j := 0) (block_below Y.out KK.out), cell_at (j := 1) (block_below Y.out KK.out), cell_at (j := 2) (block_below Y.out KK.out), cell_at (j := 3) (block_below Y.out KK.out)⟩; clear hbq; (try replace HO1 := Lib.hid (HO1.out.below (Below.refl _ _))))
    refine hK.out _ _ xx (fun hHeld => ?_)
    clear hK K hHeld
    try simp only [Act.put, List.setIfInBounds_toArray, List.set_cons_zero, List.set_cons_succ, List.getElem_toArray, List.getElem_cons_zero, List.getElem_cons_succ]
    refine wpAnyH_take (i := 13) (v := ?va13) rfl (by kernel_rfl) (by kernel_rfl) (by kernel_rfl) (fun _ _ _ h => h) (Or.inl ⟨by rfl, ?hya13⟩) xx ?ra13
    case hya13 => (intro w hSw; (try dsimp only at hSw); go_simp; first | done | with_reducible rfl)
    try simp only [Act.put, List.setIfInBounds_toArray, List.set_cons_zero, List.set_cons_succ, List.getElem_toArray, List.getElem_cons_zero, List.getElem_cons_succ]
    refine wpAnyH_take (i := 14) (v := ?va14) rfl (by kernel_rfl) (by kernel_rfl) (by kernel_rfl) (fun _ _ _ h => h) (Or.inl ⟨by rfl, ?hya14⟩) xx ?ra14
    case hya14 => (intro w hSw; (try dsimp only at hSw); go_simp; first | done | with_reducible rfl)
    try simp only [Act.put, List.setIfInBounds_toArray, List.set_cons_zero, List.set_cons_succ, List.getElem_toArray, List.getElem_cons_zero, List.getElem_cons_succ]
    refine wpAnyH_take (i := 15) (v := ?va15) rfl (by kernel_rfl) (by kernel_rfl) (by kernel_rfl) (fun _ _ _ h => h) (Or.inl ⟨by rfl, ?hya15⟩) xx ?ra15
    case hya15 => (intro w hSw; (try dsimp only at hSw); go_simp; first | done | with_reducible rfl)
    try simp only [Act.put, List.setIfInBounds_toArray, List.set_cons_zero, List.set_cons_succ, List.getElem_toArray, List.getElem_cons_zero, List.getElem_cons_succ]
    refine wpAnyH_take (i := 16) (v := ?va16) rfl (by kernel_rfl) (by kernel_rfl) (by kernel_rfl) (fun _ _ _ h => h) (Or.inl ⟨by rfl, ?hya16⟩) xx ?ra16
    case hya16 => (intro w hSw; (try dsimp only at hSw); go_simp; first | done | with_reducible rfl)
    try simp only [Act.put, List.setIfInBounds_toArray, List.set_cons_zero, List.set_cons_succ, List.getElem_toArray, List.getElem_cons_zero, List.getElem_cons_succ]
    refine wpAnyH_take (i := 17) (v := ?va17) rfl (by kernel_rfl) (by kernel_rfl) (by kernel_rfl) (fun _ _ _ h => h) (Or.inl ⟨by rfl, ?hya17⟩) xx ?ra17
    case hya17 => (intro w hSw; (try dsimp only at hSw); go_simp; first | done | with_reducible rfl)
    try simp only [Act.put, List.setIfInBounds_toArray, List.set_cons_zero, List.set_cons_succ, List.getElem_toArray, List.getElem_cons_zero, List.getElem_cons_succ]
    refine wpAnyH_take (i := 18) (v := ?va18) rfl (by kernel_rfl) (by kernel_rfl) (by kernel_rfl) (fun _ _ _ h => h) (Or.inl ⟨by rfl, ?hya18⟩) xx ?ra18
    case hya18 => (intro w hSw; (try dsimp only at hSw); go_simp; first | done | with_reducible rfl)
    try simp only [Act.put, List.setIfInBounds_toArray, List.set_cons_zero, List.set_cons_succ, List.getElem_toArray, List.getElem_cons_zero, List.getElem_cons_succ]
    refine wpAnyH_take (i := 19) (v := ?va19) rfl (by kernel_rfl) (by kernel_rfl) (by kernel_rfl) (fun _ _ _ h => h) (Or.inl ⟨by rfl, ?hya19⟩) xx ?ra19
    case hya19 => (intro w hSw; (try dsimp only at hSw); go_simp; first | done | with_reducible rfl)
    try simp only [Act.put, List.setIfInBounds_toArray, List.set_cons_zero, List.set_cons_succ, List.getElem_toArray, List.getElem_cons_zero, List.getElem_cons_succ]
    refine wpAnyH_take (i := 20) (v := ?va20) rfl (by kernel_rfl) (by kernel_rfl) (by kernel_rfl) (fun _ _ _ h => h) (Or.inl ⟨by rfl, ?hya20⟩) xx ?ra20
    case hya20 => (intro w hSw; (try dsimp only at hSw); go_simp; first | done | with_reducible rfl)
    try simp only [Act.put, List.setIfInBounds_toArray, List.set_cons_zero, List.set_cons_succ, List.getElem_toArray, List.getElem_cons_zero, List.getElem_cons_succ]
    refine wpAnyH_take (i := 21) (v := ?va21) rfl (by kernel_rfl) (by kernel_rfl) (by kernel_rfl) (fun _ _ _ h => h) (Or.inl ⟨by rfl, ?hya21⟩) xx ?ra21
    case hya21 => (intro w hSw; (try dsimp only at hSw); go_simp; first | done | with_reducible rfl)
    try simp only [Act.put, List.setIfInBounds_toArray, List.set_cons_zero, List.set_cons_succ, List.getElem_toArray, List.getElem_cons_zero, List.getElem_cons_succ]
    refine wpAnyH_take (i := 23) (v := ?va23) rfl (by kernel_rfl) (by kernel_rfl) (by kernel_rfl) (fun _ _ _ h => h) (Or.inl ⟨by rfl, ?hya23⟩) xx ?ra23
    case hya23 => (intro w hSw; (try dsimp only at hSw); go_simp; first | done | with_reducible rfl)
    try simp only [Act.put, List.setIfInBounds_toArray, List.set_cons_zero, List.set_cons_succ, List.getElem_toArray, List.getElem_cons_zero, List.getElem_cons_succ]
    refine wpAnyH_take (i := 24) (v := ?va24) rfl (by kernel_rfl) (by kernel_rfl) (by kernel_rfl) (fun _ _ _ h => h) (Or.inl ⟨by rfl, ?hya24⟩) xx ?ra24
    case hya24 => (intro w hSw; (try dsimp only at hSw); go_simp; first | done | with_reducible rfl)
    try simp only [Act.put, List.setIfInBounds_toArray, List.set_cons_zero, List.set_cons_succ, List.getElem_toArray, List.getElem_cons_zero, List.getElem_cons_succ]
    refine wpAnyH_take (i := 25) (v := ?va25) rfl (by kernel_rfl) (by kernel_rfl) (by kernel_rfl) (fun _ _ _ h => h) (Or.inl ⟨by rfl, ?hya25⟩) xx ?ra25
    case hya25 => (intro w hSw; (try dsimp only at hSw); go_simp; first | done | with_reducible rfl)
    try simp only [Act.put, List.setIfInBounds_toArray, List.set_cons_zero, List.set_cons_succ, List.getElem_toArray, List.getElem_cons_zero, List.getElem_cons_succ]
    refine wpAnyH_ready (rs := [22]) (by kernel_rfl) (by simp) ?_
    refine AllReadyH.cons rfl (fun K hK => ?_) AllReadyH.nil
    go_simp
    (go_at_call 23; (with_reducible refine (SP.out _).mono ?_); rintro e wq ⟨rfl, hbq⟩; replace KK := Lib.hid (nextB KK.out hbq); have xx : wq.cell? ⟨xb, 0, none⟩ = some (.int .i64 v) ∧ wq.cell? ⟨xb, 1, none⟩ = some (.int .u8 rv.toNat) ∧ wq.cell? ⟨xb, 2, none⟩ = some (.int .u8 fl.toNat) ∧ wq.cell? ⟨xb, 3, none⟩ = some (.slice a n cap) ∧ wq.cell? ⟨fb, 0, none⟩ = some (.int .i64 c) ∧ wq.cell? ⟨fb, 1, none⟩ = some (.int .i64 q) ∧ wq.cell? ⟨yb, 0, none⟩ = some (.int .i64 v) ∧ wq.cell? ⟨yb, 1, none⟩ = some (.int .i64 rv.toNat) ∧ wq.cell? ⟨yb, 2, none⟩ = some (.int .i64 fl.toNat) ∧ wq.cell? ⟨yb, 3, none⟩ = some (.slice a2 n cap2) := ⟨cell_at (j := 0) (block_below X.out KK.out), cell_at (j := 1) (block_below X.out KK.out), cell_at (j := 2) (block_below X.out KK.out), cell_at (j := 3) (block_below X.out KK.out), cell_at (j := 0) (block_below F.out KK.out), cell_at (j := 1) (block_below F.out KK.out), cell_at (j := 0) (block_below Y.out KK.out), cell_at (j := 1) (block_below Y.out KK.out), cell_at (j := 2) (block_below Y.out KK.out), cell_at (j := 3) (block_below Y.out KK.out)⟩; clear hbq; (try replace HO1 := Lib.hid (HO1.out.below (Below.refl _ _))))
    refine hK.out _ _ xx (fun hHeld => ?_)
    clear hK K hHeld
    try simp only [Act.put, List.setIfInBounds_toArray, List.set_cons_zero, List.set_cons_succ, List.getElem_toArray, List.getElem_cons_zero, List.getElem_cons_succ]
    refine wpAnyH_take (i := 26) (v := ?va26) rfl (by kernel_rfl) (by kernel_rfl) (by kernel_rfl) (fun _ _ _ h => h) (Or.inl ⟨by rfl, ?hya26⟩) xx ?ra26
    case hya26 => (intro w hSw; (try dsimp only at hSw); go_simp; first | done | with_reducible rfl)
    try simp only [Act.put, List.setIfInBounds_toArray, List.set_cons_zero, List.set_cons_succ, List.getElem_toArray, List.getElem_cons_zero, List.getElem_cons_succ]
    refine wpAnyH_take (i := 27) (v := ?va27) rfl (by kernel_rfl) (by kernel_rfl) (by kernel_rfl) (fun _ _ _ h => h) (Or.inl ⟨by rfl, ?hya27⟩) xx ?ra27
    case hya27 => (intro w hSw; (try dsimp only at hSw); go_simp; first | done | with_reducible rfl)
    try simp only [Act.put, List.setIfInBounds_toArray, List.set_cons_zero, List.set_cons_succ, List.getElem_toArray, List.getElem_cons_zero, List.getElem_cons_succ]
    refine wpAnyH_take (i := 28) (v := ?va28) rfl (by kernel_rfl) (by kernel_rfl) (by kernel_rfl) (fun _ _ _ h => h) (Or.inl ⟨by rfl, ?hya28⟩) xx ?ra28
    case hya28 => (intro w hSw; (try dsimp only at hSw); go_simp; first | done | with_reducible rfl)
    try simp only [Act.put, List.setIfInBounds_toArray, List.set_cons_zero, List.set_cons_succ, List.getElem_toArray, List.getElem_cons_zero, List.getElem_cons_succ]
    refine wpAnyH_take (i := 29) (v := ?va29) rfl (by kernel_rfl) (by kernel_rfl) (by kernel_rfl) (fun _ _ _ h => h) (Or.inl ⟨by rfl, ?hya29⟩) xx ?ra29
    case hya29 => (intro w hSw; (try dsimp only at hSw); go_simp; first | done | with_reducible rfl)
    try simp only [Act.put, List.setIfInBounds_toArray, List.set_cons_zero, List.set_cons_succ, List.getElem_toArray, List.getElem_cons_zero, List.getElem_cons_succ]
    refine wpAnyH_take (i := 30) (v := ?va30) rfl (by kernel_rfl) (by kernel_rfl) (by kernel_rfl) (fun _ _ _ h => h) (Or.inl ⟨by rfl, ?hya30⟩) xx ?ra30
    case hya30 => (intro w hSw; (try dsimp only at hSw); go_simp; first | done | with_reducible rfl)
    try simp only [Act.put, List.setIfInBounds_toArray, List.set_cons_zero, List.set_cons_succ, List.getElem_toArray, List.getElem_cons_zero, List.getElem_cons_succ]
    refine wpAnyH_take (i := 32) (v := ?va32) rfl (by kernel_rfl) (by kernel_rfl) (by kernel_rfl) (fun _ _ _ h => h) (Or.inl ⟨by rfl, ?hya32⟩) xx ?ra32
    case hya32 => (intro w hSw; (try dsimp only at hSw); go_simp; first | done | with_reducible rfl)
    try simp only [Act.put, List.setIfInBounds_toArray, List.set_cons_zero, List.set_cons_succ, List.getElem_toArray, List.getElem_cons_zero, List.getElem_cons_succ]
    refine wpAnyH_take (i := 33) (v := ?va33) rfl (by kernel_rfl) (by kernel_rfl) (by kernel_rfl) (fun _ _ _ h => h) (Or.inl ⟨by rfl, ?hya33⟩) xx ?ra33
    case hya33 => (intro w hSw; (try dsimp only at hSw); go_simp; first | done | with_reducible rfl)
    try simp only [Act.put, List.setIfInBounds_toArray, List.set_cons_zero, List.set_cons_succ, List.getElem_toArray, List.getElem_cons_zero, List.getElem_cons_succ]
    refine wpAnyH_take (i := 34) (v := ?va34) rfl (by kernel_rfl) (by kernel_rfl) (by kernel_rfl) (fun _ _ _ h => h) (Or.inl ⟨by rfl, ?hya34⟩) xx ?ra34
    case hya34 => (intro w hSw; (try dsimp only at hSw); go_simp; first | done | with_reducible rfl)
    try simp only [Act.put, List.setIfInBounds_toArray, List.set_cons_zero, List.set_cons_succ, List.getElem_toArray, List.getElem_cons_zero, List.getElem_cons_succ]
    refine wpAnyH_ready (rs := [31]) (by kernel_rfl) (by simp) ?_
    refine AllReadyH.cons rfl (fun K hK => ?_) AllReadyH.nil
    go_simp
    (go_at_call 22; (with_reducible refine (FT.out _).mono ?_); rintro e wq ⟨rfl, hbq⟩; replace KK := Lib.hid (nextB KK.out hbq); have xx : wq.cell? ⟨xb, 0, none⟩ = some (.int .i64 v) ∧ wq.cell? ⟨xb, 1, none⟩ = some (.int .u8 rv.toNat) ∧ wq.cell? ⟨xb, 2, none⟩ = some (.int .u8 fl.toNat) ∧ wq.cell? ⟨xb, 3, none⟩ = some (.slice a n cap) ∧ wq.cell? ⟨fb, 0, none⟩ = some (.int .i64 c) ∧ wq.cell? ⟨fb, 1, none⟩ = some (.int .i64 q) ∧ wq.cell? ⟨yb, 0, none⟩ = some (.int .i64 v) ∧ wq.cell? ⟨yb, 1, none⟩ = some (.int .i64 rv.toNat) ∧ wq.cell? ⟨yb, 2, none⟩ = some (.int .i64 fl.toNat) ∧ wq.cell? ⟨yb, 3, none⟩ = some (.slice a2 n cap2) := ⟨cell_at (j := 0) (block_below X.out KK.out), cell_at (j := 1) (block_below X.out KK.out), cell_at (j := 2) (block_below X.out KK.out), cell_at (j := 3) (block_below X.out KK.out), cell_at (j := 0) (block_below F.out KK.out), cell_at (j := 1) (block_below F.out KK.out), cell_at (j := 0) (block_below Y.out KK.out), cell_at (j := 1) (block_below Y.out KK.out), cell_at (j := 2) (block_below Y.out KK.out), cell_at (j := 3) (block_below Y.out KK.out)⟩; clear hbq; (try replace HO1 := Lib.hid (HO1.out.below (Below.refl _ _))))
    refine hK.out _ _ xx (fun hHeld => ?_)
    clear hK K hHeld
    try simp only [Act.put, List.setIfInBounds_toArray, List.set_cons_zero, List.set_cons_succ, List.getElem_toArray, List.getElem_cons_zero, List.getElem_cons_succ]
    refine wpAnyH_take (i := 35) (v := ?va35) rfl (by kernel_rfl) (by kernel_rfl) (by kernel_rfl) (fun _ _ _ h => h) (Or.inl ⟨by rfl, ?hya35⟩) xx ?ra35
    case hya35 => (intro w hSw; (try dsimp only at hSw); go_simp; first | done | with_reducible rfl)
    try simp only [Act.put, List.setIfInBounds_toArray, List.set_cons_zero, List.set_cons_succ, List.getElem_toArray, List.getElem_cons_zero, List.getElem_cons_succ]
    refine wpAnyH_take (i := 36) (v := ?va36) rfl (by kernel_rfl) (by kernel_rfl) (by kernel_rfl) (fun _ _ _ h => h) (Or.inl ⟨by rfl, ?hya36⟩) xx ?ra36
    case hya36 => (intro w hSw; (try dsimp only at hSw); go_simp; first | done | with_reducible rfl)
    try simp only [Act.put, List.setIfInBounds_toArray, List.set_cons_zero, List.set_cons_succ, List.getElem_toArray, List.getElem_cons_zero, List.getElem_cons_succ]
    refine wpAnyH_take (i := 37) (v := ?va37) rfl (by kernel_rfl) (by kernel_rfl) (by kernel_rfl) (fun _ _ _ h => h) (Or.inl ⟨by rfl, ?hya37⟩) xx ?ra37
    case hya37 => (intro w hSw; (try dsimp only at hSw); go_simp; first | done | with_reducible rfl)
    try simp only [Act.put, List.setIfInBounds_toArray, List.set_cons_zero, List.set_cons_succ, List.getElem_toArray, List.getElem_cons_zero, List.getElem_cons_succ]
    refine wpAnyH_ready (rs := [38]) (by kernel_rfl) (by simp) ?_
    refine AllReadyH.cons rfl (fun K hK => ?_) AllReadyH.nil
    go_simp
    (go_at_call 28; (with_reducible refine (BT.out _).mono ?_); rintro e wx ⟨rfl, rfl⟩)
    refine hK.out _ _ xx (fun hHeld => ?_)
    clear hK K hHeld
    try simp only [Act.put, List.setIfInBounds_toArray, List.set_cons_zero, List.set_cons_succ, List.getElem_toArray, List.getElem_cons_zero, List.getElem_cons_succ]
    refine wpAnyH_take (i := 39) (v := ?va39) rfl (by kernel_rfl) (by kernel_rfl) (by kernel_rfl) (fun _ _ _ h => h) (Or.inl ⟨by rfl, ?hya39⟩) xx ?ra39
    case hya39 => (intro w hSw; (try dsimp only at hSw); go_simp; first | done | with_reducible rfl)
    try simp only [Act.put, List.setIfInBounds_toArray, List.set_cons_zero, List.set_cons_succ, List.getElem_toArray, List.getElem_cons_zero, List.getElem_cons_succ]
    refine wpAnyH_take (i := 40) (v := ?va40) rfl (by kernel_rfl) (by kernel_rfl) (by kernel_rfl) (fun _ _ _ h => h) (Or.inl ⟨by rfl, ?hya40⟩) xx ?ra40
    case hya40 => (intro w hSw; (try dsimp only at hSw); go_simp; first | done | with_reducible rfl)
    try simp only [Act.put, List.setIfInBounds_toArray, List.set_cons_zero, List.set_cons_succ, List.getElem_toArray, List.getElem_cons_zero, List.getElem_cons_succ]
    refine wpAnyH_take (i := 41) (v := ?va41) rfl (by kernel_rfl) (by kernel_rfl) (by kernel_rfl) (fun _ _ _ h => h) (Or.inl ⟨by rfl, ?hya41⟩) xx ?ra41
    case hya41 => (intro w hSw; (try dsimp only at hSw); go_simp; first | done | with_reducible rfl)
    try simp only [Act.put, List.setIfInBounds_toArray, List.set_cons_zero, List.set_cons_succ, List.getElem_toArray, List.getElem_cons_zero, List.getElem_cons_succ]
    refine wpAnyH_take (i := 42) (v := ?va42) rfl (by kernel_rfl) (by kernel_rfl) (by kernel_rfl) (fun _ _ _ h => h) (Or.inl ⟨by rfl, ?hya42⟩) xx ?ra42
    case hya42 => (intro w hSw; (try dsimp only at hSw); go_simp; first | done | with_reducible rfl)
    try simp only [Act.put, List.setIfInBounds_toArray, List.set_cons_zero, List.set_cons_succ, List.getElem_toArray, List.getElem_cons_zero, List.getElem_cons_succ]
    refine wpAnyH_done (by kernel_rfl) ?_ _
    refine NoPanic.normal ?_
    go_wp2
    go_ret
    exact ⟨rfl, nextB K.out KK.out⟩
  · skip
    refine wp_region_noPanic ?_
    refine wp_region_held_drew (S := fun w' => w'.cell? ⟨xb, 0, none⟩ = some (.int .i64 v) ∧ w'.cell? ⟨xb, 1, none⟩ = some (.int .u8 rv.toNat) ∧ w'.cell? ⟨xb, 2, none⟩ = some (.int .u8 fl.toNat) ∧ w'.cell? ⟨xb, 3, none⟩ = some (.slice a n cap) ∧ w'.cell? ⟨fb, 0, none⟩ = some (.int .i64 c) ∧ w'.cell? ⟨fb, 1, none⟩ = some (.int .i64 q) ∧ w'.cell? ⟨yb, 0, none⟩ = some (.int .i64 v) ∧ w'.cell? ⟨yb, 1, none⟩ = some (.int .i64 rv.toNat) ∧ w'.cell? ⟨yb, 2, none⟩ = some (.int .i64 fl.toNat) ∧ w'.cell? ⟨yb, 3, none⟩ = some (.slice a2 n cap2)) (by kernel_rfl) xx (fun hHeld => ?_)
    clear hHeld
    try simp only [Act.put, List.setIfInBounds_toArray, List.set_cons_zero, List.set_cons_succ, List.getElem_toArray, List.getElem_cons_zero, List.getElem_cons_succ]
    refine wpAnyH_ready (rs := [0]) (by kernel_rfl) (by simp) ?_
    refine AllReadyH.cons rfl (fun K hK => ?_) AllReadyH.nil
    go_simp
    (go_at_call 21; refine (awake15' _).mono ?_; rintro e wq ⟨rfl, hbq⟩; replace KK := Lib.hid (nextB KK.out hbq); have xx : wq.cell? ⟨xb, 0, none⟩ = some (.int .i64 v) ∧ wq.cell? ⟨xb, 1, none⟩ = some (.int .u8 rv.toNat) ∧ wq.cell? ⟨xb, 2, none⟩ = some (.int .u8 fl.toNat) ∧ wq.cell? ⟨xb, 3, none⟩ = some (.slice a n cap) ∧ wq.cell? ⟨fb, 0, none⟩ = some (.int .i64 c) ∧ wq.cell? ⟨fb, 1, none⟩ = some (.int .i64 q) ∧ wq.cell? ⟨yb, 0, none⟩ = some (.int .i64 v) ∧ wq.cell? ⟨yb, 1, none⟩ = some (.int .i64 rv.toNat) ∧ wq.cell? ⟨yb, 2, none⟩ = some (.int .i64 fl.toNat) ∧ wq.cell? ⟨yb, 3, none⟩ = some (.slice a2 n cap2) := ⟨cell_at (j := 0) (block_below X.out KK.out), cell_at (j := 1) (block_below X.out KK.out), cell_at (j := 2) (block_below X.out KK.out), cell_at (j := 3) (block_below X.out KK.out), cell_at (j := 0) (block_below F.out KK.out), cell_at (j := 1) (block_below F.out KK.out), cell_at (j := 0) (block_below Y.out KK.out), cell_at (j := 1) (block_below Y.out KK.out), cell_at (j := 2) (block_below Y.out KK.out), cell_at (j := 3) (block_below Y.out KK.out)⟩; clear hbq; (try replace HO1 := Lib.hid (HO1.out.below (Below.refl _ _))))
    refine hK.out _ _ xx (fun hHeld => ?_)
    clear hK K hHeld
    try simp only [Act.put, List.setIfInBounds_toArray, List.set_cons_zero, List.set_cons_succ, List.getElem_toArray, List.getElem_cons_zero, List.getElem_cons_succ]
    refine wpAnyH_take (i := 1) (v := ?vc1) rfl (by kernel_rfl) (by kernel_rfl) (by kernel_rfl) (fun _ _ _ h => h) (Or.inl ⟨by rfl, ?hyc1⟩) xx ?rc1
    case hyc1 => (intro w hSw; (try dsimp only at hSw); go_simp; first | done | with_reducible rfl)
    try simp only [Act.put, List.setIfInBounds_toArray, List.set_cons_zero, List.set_cons_succ, List.getElem_toArray, List.getElem_cons_zero, List.getElem_cons_succ]
    refine wpAnyH_take (i := 2) (v := ?vc2) rfl (by kernel_rfl) (by kernel_rfl) (by kernel_rfl) (fun _ _ _ h => h) (Or.inl ⟨by rfl, ?hyc2⟩) xx ?rc2
    case hyc2 => (intro w hSw; (try dsimp only at hSw); go_simp; first | done | with_reducible rfl)
    try simp only [Act.put, List.setIfInBounds_toArray, List.set_cons_zero, List.set_cons_succ, List.getElem_toArray, List.getElem_cons_zero, List.getElem_cons_succ]
    refine wpAnyH_take (i := 3) (v := ?vc3) rfl (by kernel_rfl) (by kernel_rfl) (by kernel_rfl) (fun _ _ _ h => h) (Or.inl ⟨by rfl, ?hyc3⟩) xx ?rc3
    case hyc3 => (intro w hSw; (try dsimp only at hSw); go_simp; first | done | with_reducible rfl)
    try simp only [Act.put, List.setIfInBounds_toArray, List.set_cons_zero, List.set_cons_succ, List.getElem_toArray, List.getElem_cons_zero, List.getElem_cons_succ]
    refine wpAnyH_take (i := 4) (v := ?vc4) rfl (by kernel_rfl) (by kernel_rfl) (by kernel_rfl) (fun _ _ _ h => h) (Or.inl ⟨by rfl, ?hyc4⟩) xx ?rc4
    case hyc4 => (intro w hSw; (try dsimp only at hSw); go_simp; first | done | with_reducible rfl)
    try simp only [Act.put, List.setIfInBounds_toArray, List.set_cons_zero, List.set_cons_succ, List.getElem_toArray, List.getElem_cons_zero, List.getElem_cons_succ]
    refine wpAnyH_ready (rs := [5]) (by kernel_rfl) (by simp) ?_
    refine AllReadyH.cons rfl (fun K hK => ?_) AllReadyH.nil
    go_simp
    (go_at_call 27; (with_reducible refine (F9.out _).mono ?_); rintro e wq ⟨rfl, hbq⟩; replace KK := Lib.hid (nextB KK.out hbq); have xx : wq.cell? ⟨xb, 0, none⟩ = some (.int .i64 v) ∧ wq.cell? ⟨xb, 1, none⟩ = some (.int .u8 rv.toNat) ∧ wq.cell? ⟨xb, 2, none⟩ = some (.int .u8 fl.toNat) ∧ wq.cell? ⟨xb, 3, none⟩ = some (.slice a n cap) ∧ wq.cell? ⟨fb, 0, none⟩ = some (.int .i64 c) ∧ wq.cell? ⟨fb, 1, none⟩ = some (.int .i64 q) ∧ wq.cell? ⟨yb, 0, none⟩ = some (.int .i64 v) ∧ wq.cell? ⟨yb, 1, none⟩ = some (.int .i64 rv.toNat) ∧ wq.cell? ⟨yb, 2, none⟩ = some (.int .i64 fl.toNat) ∧ wq.cell? ⟨yb, 3, none⟩ = some (.slice a2 n cap2) := ⟨cell_at (j := 0) (block_below X.out KK.out), cell_at (j := 1) (block_below X.out KK.out), cell_at (j := 2) (block_below X.out KK.out), cell_at (j := 3) (block_below X.out KK.out), cell_at (j := 0) (block_below F.out KK.out), cell_at (j := 1) (block_below F.out KK.out), cell_at (j := 0) (block_below Y.out KK.out), cell_at (j := 1) (block_below Y.out KK.out), cell_at (j := 2) (block_below Y.out KK.out), cell_at (j := 3) (block_below Y.out KK.out)⟩; clear hbq; (try replace HO1 := Lib.hid (HO1.out.below (Below.refl _ _))))
    refine hK.out _ _ xx (fun hHeld => ?_)
    clear hK K hHeld
    try simp only [Act.put, List.setIfInBounds_toArray, List.set_cons_zero, List.set_cons_succ, List.getElem_toArray, List.getElem_cons_zero, List.getElem_cons_succ]
    refine wpAnyH_take (i := 6) (v := ?vc6) rfl (by kernel_rfl) (by kernel_rfl) (by kernel_rfl) (fun _ _ _ h => h) (Or.inl ⟨by rfl, ?hyc6⟩) xx ?rc6
    case hyc6 => (intro w hSw; (try dsimp only at hSw); go_simp; first | done | with_reducible rfl)
    try simp only [Act.put, List.setIfInBounds_toArray, List.set_cons_zero, List.set_cons_succ, List.getElem_toArray, List.getElem_cons_zero, List.getElem_cons_succ]
    refine wpAnyH_take (i := 7) (v := ?vc7) rfl (by kernel_rfl) (by kernel_rfl) (by kernel_rfl) (fun _ _ _ h => h) (Or.inl ⟨by rfl, ?hyc7⟩) xx ?rc7
    case hyc7 => (intro w hSw; (try dsimp only at hSw); go_simp; first | done | with_reducible rfl)
    try simp only [Act.put, List.setIfInBounds_toArray, List.set_cons_zero, List.set_cons_succ, List.getElem_toArray, List.getElem_cons_zero, List.getElem_cons_succ]
    refine wpAnyH_take (i := 8) (v := ?vc8) rfl (by kernel_rfl) (by kernel_rfl) (by kernel_rfl) (fun _ _ _ h => h) (Or.inl ⟨by rfl, ?hyc8⟩) xx ?rc8
    case hyc8 => (intro w hSw; (try dsimp only at hSw); go_simp; first | done | with_reducible rfl)
    try simp only [Act.put, List.setIfInBounds_toArray, List.set_cons_zero, List.set_cons_succ, List.getElem_toArray, List.getElem_cons_zero, List.getElem_cons_succ]
    refine wpAnyH_take (i := 9) (v := ?vc9) rfl (by kernel_rfl) (by kernel_rfl) (by kernel_rfl) (fun _ _ _ h => h) (Or.inl ⟨by rfl, ?hyc9⟩) xx ?rc9
    case hyc9 => (intro w hSw; (try dsimp only at hSw); go_simp; first | done | with_reducible rfl)
    try simp only [Act.put, List.setIfInBounds_toArray, List.set_cons_zero, List.set_cons_succ, List.getElem_toArray, List.getElem_cons_zero, List.getElem_cons_succ]
    refine wpAnyH_take (i := 11) (v := ?vc11) rfl (by kernel_rfl) (by kernel_rfl) (by kernel_rfl) (fun _ _ _ h => h) (Or.inl ⟨by rfl, ?hyc11⟩) xx ?rc11
    case hyc11 => (intro w hSw; (try dsimp only at hSw); go_simp; first | done | with_reducible rfl)
    try simp only [Act.put, List.setIfInBounds_toArray, List.set_cons_zero, List.set_cons_succ, List.getElem_toArray, List.getElem_cons_zero, List.getElem_cons_succ]
    refine wpAnyH_ready (rs := [10]) (by kernel_rfl) (by simp) ?_
    refine AllReadyH.cons rfl (fun K hK => ?_) AllReadyH.nil
    go_simp
    (go_at_call 20; (with_reducible refine (tof_any v rv fl a n cap fs _ (Lib.hid (V.out.below KK.out)) hn).mono ?_); rintro e wq ⟨oa, oc, rfl, ho, hbq⟩; replace KK := Lib.hid (nextB KK.out hbq); have xx : wq.cell? ⟨xb, 0, none⟩ = some (.int .i64 v) ∧ wq.cell? ⟨xb, 1, none⟩ = some (.int .u8 rv.toNat) ∧ wq.cell? ⟨xb, 2, none⟩ = some (.int .u8 fl.toNat) ∧ wq.cell? ⟨xb, 3, none⟩ = some (.slice a n cap) ∧ wq.cell? ⟨fb, 0, none⟩ = some (.int .i64 c) ∧ wq.cell? ⟨fb, 1, none⟩ = some (.int .i64 q) ∧ wq.cell? ⟨yb, 0, none⟩ = some (.int .i64 v) ∧ wq.cell? ⟨yb, 1, none⟩ = some (.int .i64 rv.toNat) ∧ wq.cell? ⟨yb, 2, none⟩ = some (.int .i64 fl.toNat) ∧ wq.cell? ⟨yb, 3, none⟩ = some (.slice a2 n cap2) := ⟨cell_at (j := 0) (block_below X.out KK.out), cell_at (j := 1) (block_below X.out KK.out), cell_at (j := 2) (block_below X.out KK.out), cell_at (j := 3) (block_below X.out KK.out), cell_at (j := 0) (block_below F.out KK.out), cell_at (j := 1) (block_below F.out KK.out), cell_at (j := 0) (block_below Y.out KK.out), cell_at (j := 1) (block_below Y.out KK.out), cell_at (j := 2) (block_below Y.out KK.out), cell_at (j := 3) (block_below Y.out KK.out)⟩; clear hbq; (try replace HO1 := Lib.hid (HO1.out.below (Below.refl _ _))); have HO1 := Lib.hid ho; clear ho)
    refine hK.out _ _ xx (fun hHeld => ?_)
    clear hK K hHeld
    try simp only [Act.put, List.setIfInBounds_toArray, List.set_cons_zero, List.set_cons_succ, List.getElem_toArray, List.getElem_cons_zero, List.getElem_cons_succ]
    refine wpAnyH_ready (rs := [12]) (by kernel_rfl) (by simp) ?_
    refine AllReadyH.cons rfl (fun K hK => ?_) AllReadyH.nil
    go_simp
    (go_at_call 19; (with_reducible refine (tsame_yes v rv.toNat fl.toNat oa a2 n oc cap2 fs fs true _ HO1 (Lib.hid (U.out.below KK.out)) hn (Lib.hid rfl)).mono ?_); rintro e wq ⟨rfl, hbq⟩; replace KK := Lib.hid (nextB KK.out hbq); have xx : wq.cell? ⟨xb, 0, none⟩ = some (.int .i64 v) ∧ wq.cell? ⟨xb, 1, none⟩ = some (.int .u8 rv.toNat) ∧ wq.cell? ⟨xb, 2, none⟩ = some (.int .u8 fl.toNat) ∧ wq.cell? ⟨xb, 3, none⟩ = some (.slice a n cap) ∧ wq.cell? ⟨fb, 0, none⟩ = some (.int .i64 c) ∧ wq.cell? ⟨fb, 1, none⟩ = some (.int .i64 q) ∧ wq.cell? ⟨yb, 0, none⟩ = some (.int .i64 v) ∧ wq.cell? ⟨yb, 1, none⟩ = some (.int .i64 rv.toNat) ∧ wq.cell? ⟨yb, 2, none⟩ = some (.int .i64 fl.toNat) ∧ wq.cell? ⟨yb, 3, none⟩ = some (.slice a2 n cap2) := ⟨cell_at (j := 0) (block_below X.out KK.out), cell_at (j := 1) (block_below X.out KK.out), cell_at (j := 2) (block_below X.out KK.out), cell_at (j := 3) (block_below X.out KK.out), cell_at (j := 0) (block_below F.out KK.out), cell_at (j := 1) (block_below F.out KK.out), cell_at (j := 0) (block_below Y.out KK.out), cell_at (j := 1) (block_below Y.out KK.out), cell_at (j := 2) (block_below Y.out KK.out), cell_at (j := 3) (block_below Y.out KK.out)⟩; clear hbq; (try replace HO1 := Lib.hid (HO1.out.below (Below.refl _ _))))
    refine hK.out _ _ xx (fun hHeld => ?_)
    clear hK K hHeld
    try simp only [Act.put, List.setIfInBounds_toArray, List.set_cons_zero, List.set_cons_succ, List.getElem_toArray, List.getElem_cons_zero, List.getElem_cons_succ]
    refine wpAnyH_take (i := 13) (v := ?vc13) rfl (by kernel_rfl) (by kernel_rfl) (by kernel_rfl) (fun _ _ _ h => h) (Or.inl ⟨by rfl, ?hyc13⟩) xx ?rc13
    case hyc13 => (intro w hSw; (try dsimp only at hSw); go_simp; first | done | with_reducible rfl)
    try simp only [Act.put, List.setIfInBounds_toArray, List.set_cons_zero, List.set_cons_succ, List.getElem_toArray, List.getElem_cons_zero, List.getElem_cons_succ]
    refine wpAnyH_take (i := 14) (v := ?vc14) rfl (by kernel_rfl) (by kernel_rfl) (by kernel_rfl) (fun _ _ _ h => h) (Or.inl ⟨by rfl, ?hyc14⟩) xx ?rc14
    case hyc14 => (intro w hSw; (try dsimp only at hSw); go_simp; first | done | with_reducible rfl)
    try simp only [Act.put, List.setIfInBounds_toArray, List.set_cons_zero, List.set_cons_succ, List.getElem_toArray, List.getElem_cons_zero, List.getElem_cons_succ]
    refine wpAnyH_take (i := 15) (v := ?vc15) rfl (by kernel_rfl) (by kernel_rfl) (by kernel_rfl) (fun _ _ _ h => h) (Or.inl ⟨by rfl, ?hyc15⟩) xx ?rc15
    case hyc15 => (intro w hSw; (try dsimp only at hSw); go_simp; first | done | with_reducible rfl)
    try simp only [Act.put, List.setIfInBounds_toArray, List.set_cons_zero, List.set_cons_succ, List.getElem_toArray, List.getElem_cons_zero, List.getElem_cons_succ]
    refine wpAnyH_take (i := 16) (v := ?vc16) rfl (by kernel_rfl) (by kernel_rfl) (by kernel_rfl) (fun _ _ _ h => h) (Or.inl ⟨by rfl, ?hyc16⟩) xx ?rc16
    case hyc16 => (intro w hSw; (try dsimp only at hSw); go_simp; first | done | with_reducible rfl)
    try simp only [Act.put, List.setIfInBounds_toArray, List.set_cons_zero, List.set_cons_succ, List.getElem_toArray, List.getElem_cons_zero, List.getElem_cons_succ]
    refine wpAnyH_take (i := 17) (v := ?vc17) rfl (by kernel_rfl) (by kernel_rfl) (by kernel_rfl) (fun _ _ _ h => h) (Or.inl ⟨by rfl, ?hyc17⟩) xx ?rc17
    case hyc17 => (intro w hSw; (try dsimp only at hSw); go_simp; first | done | with_reducible rfl)
    try simp only [Act.put, List.setIfInBounds_toArray, List.set_cons_zero, List.set_cons_succ, List.getElem_toArray, List.getElem_cons_zero, List.getElem_cons_succ]
    refine wpAnyH_take (i := 18) (v := ?vc18) rfl (by kernel_rfl) (by kernel_rfl) (by kernel_rfl) (fun _ _ _ h => h) (Or.inl ⟨by rfl, ?hyc18⟩) xx ?rc18
    case hyc18 => (intro w hSw; (try dsimp only at hSw); go_simp; first | done | with_reducible rfl)
    try simp only [Act.put, List.setIfInBounds_toArray, List.set_cons_zero, List.set_cons_succ, List.getElem_toArray, List.getElem_cons_zero, List.getElem_cons_succ]
    refine wpAnyH_take (i := 19) (v := ?vc19) rfl (by kernel_rfl) (by kernel_rfl) (by kernel_rfl) (fun _ _ _ h => h) (Or.inl ⟨by rfl, ?hyc19⟩) xx ?rc19
    case hyc19 => (intro w hSw; (try dsimp only at hSw); go_simp; first | done | with_reducible rfl)
    try simp only [Act.put, List.setIfInBounds_toArray, List.set_cons_zero, List.set_cons_succ, List.getElem_toArray, List.getElem_cons_zero, List.getElem_cons_succ]
    refine wpAnyH_take (i := 20) (v := ?vc20) rfl (by kernel_rfl) (by kernel_rfl) (by kernel_rfl) (fun _ _ _ h => h) (Or.inl ⟨by rfl, ?hyc20⟩) xx ?rc20
    case hyc20 => (intro w hSw; (try dsimp only at hSw); go_simp; first | done | with_reducible rfl)
    try simp only [Act.put, List.setIfInBounds_toArray, List.set_cons_zero, List.set_cons_succ, List.getElem_toArray, List.getElem_cons_zero, List.getElem_cons_succ]
    refine wpAnyH_take (i := 21) (v := ?vc21) rfl (by kernel_rfl) (by kernel_rfl) (by kernel_rfl) (fun _ _ _ h => h) (Or.inl ⟨by rfl, ?hyc21⟩) xx ?rc21
    case hyc21 => (intro w hSw; (try dsimp only at hSw); go_simp; first | done | with_reducible rfl)
    try simp only [Act.put, List.setIfInBounds_toArray, List.set_cons_zero, List.set_cons_succ, List.getElem_toArray, List.getElem_cons_zero, List.getElem_cons_succ]
    refine wpAnyH_take (i := 23) (v := ?vc23) rfl (by kernel_rfl) (by kernel_rfl) (by kernel_rfl) (fun _ _ _ h => h) (Or.inl ⟨by rfl, ?hyc23⟩) xx ?rc23
    case hyc23 => (intro w hSw; (try dsimp only at hSw); go_simp; first | done | with_reducible rfl)
    try simp only [Act.put, List.setIfInBounds_toArray, List.set_cons_zero, List.set_cons_succ, List.getElem_toArray, List.getElem_cons_zero, List.getElem_cons_succ]
    refine wpAnyH_take (i := 24) (v := ?vc24) rfl (by kernel_rfl) (by kernel_rfl) (by kernel_rfl) (fun _ _ _ h => h) (Or.inl ⟨by rfl, ?hyc24⟩) xx ?rc24
    case hyc24 => (intro w hSw; (try dsimp only at hSw); go_simp; first | done | with_reducible rfl)
    try simp only [Act.put, List.setIfInBounds_toArray, List.set_cons_zero, List.set_cons_succ, List.getElem_toArray, List.getElem_cons_zero, List.getElem_cons_succ]
    refine wpAnyH_take (i := 25) (v := ?vc25) rfl (by kernel_rfl) (by kernel_rfl) (by kernel_rfl) (fun _ _ _ h => h) (Or.inl ⟨by rfl, ?hyc25⟩) xx ?rc25
    case hyc25 => (intro w hSw; (try dsimp only at hSw); go_simp; first | done | with_reducible rfl)
    try simp only [Act.put, List.setIfInBounds_toArray, List.set_cons_zero, List.set_cons_succ, List.getElem_toArray, List.getElem_cons_zero, List.getElem_cons_succ]
    refine wpAnyH_ready (rs := [22]) (by kernel_rfl) (by simp) ?_
    refine AllReadyH.cons rfl (fun K hK => ?_) AllReadyH.nil
    go_simp
    (go_at_call 23; (with_reducible refine (SP.out _).mono ?_); rintro e wq ⟨rfl, hbq⟩; replace KK := Lib.hid (nextB KK.out hbq); have xx : wq.cell? ⟨xb, 0, none⟩ = some (.int .i64 v) ∧ wq.cell? ⟨xb, 1, none⟩ = some (.int .u8 rv.toNat) ∧ wq.cell? ⟨xb, 2, none⟩ = some (.int .u8 fl.toNat) ∧ wq.cell? ⟨xb, 3, none⟩ = some (.slice a n cap) ∧ wq.cell? ⟨fb, 0, none⟩ = some (.int .i64 c) ∧ wq.cell? ⟨fb, 1, none⟩ = some (.int .i64 q) ∧ wq.cell? ⟨yb, 0, none⟩ = some (.int .i64 v) ∧ wq.cell? ⟨yb, 1, none⟩ = some (.int .i64 rv.toNat) ∧ wq.cell? ⟨yb, 2, none⟩ = some (.int .i64 fl.toNat) ∧ wq.cell? ⟨yb, 3, none⟩ = some (.slice a2 n cap2) := ⟨cell_at (j := 0) (block_below X.out KK.out), cell_at (j := 1) (block_below X.out KK.out), cell_at (j := 2) (block_below X.out KK.out), cell_at (j := 3) (block_below X.out KK.out), cell_at (j := 0) (block_below F.out KK.out), cell_at (j := 1) (block_below F.out KK.out), cell_at (j := 0) (block_below Y.out KK.out), cell_at (j := 1) (block_below Y.out KK.out), cell_at (j := 2) (block_below Y.out KK.out), cell_at (j := 3) (block_below Y.out KK.out)⟩; clear hbq; (try replace HO1 := Lib.hid (HO1.out.below (Below.refl _ _))))
    refine hK.out _ _ xx (fun hHeld => ?_)
    clear hK K hHeld
    try simp only [Act.put, List.setIfInBounds_toArray, List.set_cons_zero, List.set_cons_succ, List.getElem_toArray, List.getElem_cons_zero, List.getElem_cons_succ]
    refine wpAnyH_take (i := 26) (v := ?vc26) rfl (by kernel_rfl) (by kernel_rfl) (by kernel_rfl) (fun _ _ _ h => h) (Or.inl ⟨by rfl, ?hyc26⟩) xx ?rc26
    case hyc26 => (intro w hSw; (try dsimp only at hSw); go_simp; first | done | with_reducible rfl)
    try simp only [Act.put, List.setIfInBounds_toArray, List.set_cons_zero, List.set_cons_succ, List.getElem_toArray, List.getElem_cons_zero, List.getElem_cons_succ]
    refine wpAnyH_take (i := 27) (v := ?vc27) rfl (by kernel_rfl) (by kernel_rfl) (by kernel_rfl) (fun _ _ _ h => h) (Or.inl ⟨by rfl, ?hyc27⟩) xx ?rc27
    case hyc27 => (intro w hSw; (try dsimp only at hSw); go_simp; first | done | with_reducible rfl)
    try simp only [Act.put, List.setIfInBounds_toArray, List.set_cons_zero, List.set_cons_succ, List.getElem_toArray, List.getElem_cons_zero, List.getElem_cons_succ]
    refine wpAnyH_take (i := 28) (v := ?vc28) rfl (by kernel_rfl) (by kernel_rfl) (by kernel_rfl) (fun _ _ _ h => h) (Or.inl ⟨by rfl, ?hyc28⟩) xx ?rc28
    case hyc28 => (intro w hSw; (try dsimp only at hSw); go_simp; first | done | with_reducible rfl)
    try simp only [Act.put, List.setIfInBounds_toArray, List.set_cons_zero, List.set_cons_succ, List.getElem_toArray, List.getElem_cons_zero, List.getElem_cons_succ]
    refine wpAnyH_take (i := 29) (v := ?vc29) rfl (by kernel_rfl) (by kernel_rfl) (by kernel_rfl) (fun _ _ _ h => h) (Or.inl ⟨by rfl, ?hyc29⟩) xx ?rc29
    case hyc29 => (intro w hSw; (try dsimp only at hSw); go_simp; first | done | with_reducible rfl)
    try simp only [Act.put, List.setIfInBounds_toArray, List.set_cons_zero, List.set_cons_succ, List.getElem_toArray, List.getElem_cons_zero, List.getElem_cons_succ]
    refine wpAnyH_take (i := 30) (v := ?vc30) rfl (by kernel_rfl) (by kernel_rfl) (by kernel_rfl) (fun _ _ _ h => h) (Or.inl ⟨by rfl, ?hyc30⟩) xx ?rc30
    case hyc30 => (intro w hSw; (try dsimp only at hSw); go_simp; first | done | with_reducible rfl)
    try simp only [Act.put, List.setIfInBounds_toArray, List.set_cons_zero, List.set_cons_succ, List.getElem_toArray, List.getElem_cons_zero, List.getElem_cons_succ]
    refine wpAnyH_take (i := 32) (v := ?vc32) rfl (by kernel_rfl) (by kernel_rfl) (by kernel_rfl) (fun _ _ _ h => h) (Or.inl ⟨by rfl, ?hyc32⟩) xx ?rc32
    case hyc32 => (intro w hSw; (try dsimp only at hSw); go_simp; first | done | with_reducible rfl)
    try simp only [Act.put, List.setIfInBounds_toArray, List.set_cons_zero, List.set_cons_succ, List.getElem_toArray, List.getElem_cons_zero, List.getElem_cons_succ]
    refine wpAnyH_take (i := 33) (v := ?vc33) rfl (by kernel_rfl) (by kernel_rfl) (by kernel_rfl) (fun _ _ _ h => h) (Or.inl ⟨by rfl, ?hyc33⟩) xx ?rc33
    case hyc33 => (intro w hSw; (try dsimp only at hSw); go_simp; first | done | with_reducible rfl)
    try simp only [Act.put, List.setIfInBounds_toArray, List.set_cons_zero, List.set_cons_succ, List.getElem_toArray, List.getElem_cons_zero, List.getElem_cons_succ]
    refine wpAnyH_take (i := 34) (v := ?vc34) rfl (by kernel_rfl) (by kernel_rfl) (by kernel_rfl) (fun _ _ _ h => h) (Or.inl ⟨by rfl, ?hyc34⟩) xx ?rc34
    case hyc34 => (intro w hSw; (try dsimp only at hSw); go_simp; first | done | with_reducible rfl)
    try simp only [Act.put, List.setIfInBounds_toArray, List.set_cons_zero, List.set_cons_succ, List.getElem_toArray, List.getElem_cons_zero, List.getElem_cons_succ]
    refine wpAnyH_ready (rs := [31]) (by kernel_rfl) (by simp) ?_
    refine AllReadyH.cons rfl (fun K hK => ?_) AllReadyH.nil
    go_simp
    (go_at_call 22; (with_reducible refine (FT.out _).mono ?_); rintro e wq ⟨rfl, hbq⟩; replace KK := Lib.hid (nextB KK.out hbq); have xx : wq.cell? ⟨xb, 0, none⟩ = some (.int .i64 v) ∧ wq.cell? ⟨xb, 1, none⟩ = some (.int .u8 rv.toNat) ∧ wq.cell? ⟨xb, 2, none⟩ = some (.int .u8 fl.toNat) ∧ wq.cell? ⟨xb, 3, none⟩ = some (.slice a n cap) ∧ wq.cell? ⟨fb, 0, none⟩ = some (.int .i64 c) ∧ wq.cell? ⟨fb, 1, none⟩ = some (.int .i64 q) ∧ wq.cell? ⟨yb, 0, none⟩ = some (.int .i64 v) ∧ wq.cell? ⟨yb, 1, none⟩ = some (.int .i64 rv.toNat) ∧ wq.cell? ⟨yb, 2, none⟩ = some (.int .i64 fl.toNat) ∧ wq.cell? ⟨yb, 3, none⟩ = some (.slice a2 n cap2) := ⟨cell_at (j := 0) (block_below X.out KK.out), cell_at (j := 1) (block_below X.out KK.out), cell_at (j := 2) (block_below X.out KK.out), cell_at (j := 3) (block_below X.out KK.out), cell_at (j := 0) (block_below F.out KK.out), cell_at (j := 1) (block_below F.out KK.out), cell_at (j := 0) (block_below Y.out KK.out), cell_at (j := 1) (block_below Y.out KK.out), cell_at (j := 2) (block_below Y.out KK.out), cell_at (j := 3) (block_below Y.out KK.out)⟩; clear hbq; (try replace HO1 := Lib.hid (HO1.out.below (Below.refl _ _))))
    refine hK.out _ _ xx (fun hHeld => ?_)
    clear hK K hHeld
    try simp only [Act.put, List.setIfInBounds_toArray, List.set_cons_zero, List.set_cons_succ, List.getElem_toArray, List.getElem_cons_zero, List.getElem_cons_succ]
    refine wpAnyH_take (i := 35) (v := ?vc35) rfl (by kernel_rfl) (by kernel_rfl) (by kernel_rfl) (fun _ _ _ h => h) (Or.inl ⟨by rfl, ?hyc35⟩) xx ?rc35
    case hyc35 => (intro w hSw; (try dsimp only at hSw); go_simp; first | done | with_reducible rfl)
    try simp only [Act.put, List.setIfInBounds_toArray, List.set_cons_zero, List.set_cons_succ, List.getElem_toArray, List.getElem_cons_zero, List.getElem_cons_succ]
    refine wpAnyH_take (i := 36) (v := undef) rfl (by kernel_rfl) (by kernel_rfl) (by kernel_rfl) (fun _ _ _ h => h) (Or.inr ⟨by rfl, rfl⟩) xx ?_
    try simp only [Act.put, List.setIfInBounds_toArray, List.set_cons_zero, List.set_cons_succ, List.getElem_toArray, List.getElem_cons_zero, List.getElem_cons_succ]
    refine wpAnyH_take (i := 37) (v := undef) rfl (by kernel_rfl) (by kernel_rfl) (by kernel_rfl) (fun _ _ _ h => h) (Or.inr ⟨by rfl, rfl⟩) xx ?_
    try simp only [Act.put, List.setIfInBounds_toArray, List.set_cons_zero, List.set_cons_succ, List.getElem_toArray, List.getElem_cons_zero, List.getElem_cons_succ]
    refine wpAnyH_take (i := 38) (v := undef) rfl (by kernel_rfl) (by kernel_rfl) (by kernel_rfl) (fun _ _ _ h => h) (Or.inr ⟨by rfl, rfl⟩) xx ?_
    try simp only [Act.put, List.setIfInBounds_toArray, List.set_cons_zero, List.set_cons_succ, List.getElem_toArray, List.getElem_cons_zero, List.getElem_cons_succ]
    refine wpAnyH_take (i := 39) (v := ?vc39) rfl (by kernel_rfl) (by kernel_rfl) (by kernel_rfl) (fun _ _ _ h => h) (Or.inl ⟨by rfl, ?hyc39⟩) xx ?rc39
    case hyc39 => (intro w hSw; (try dsimp only at hSw); go_simp; first | done | with_reducible rfl)
    try simp only [Act.put, List.setIfInBounds_toArray, List.set_cons_zero, List.set_cons_succ, List.getElem_toArray, List.getElem_cons_zero, List.getElem_cons_succ]
    refine wpAnyH_take (i := 40) (v := ?vc40) rfl (by kernel_rfl) (by kernel_rfl) (by kernel_rfl) (fun _ _ _ h => h) (Or.inl ⟨by rfl, ?hyc40⟩) xx ?rc40
    case hyc40 => (intro w hSw; (try dsimp only at hSw); go_simp; first | done | with_reducible rfl)
    try simp only [Act.put, List.setIfInBounds_toArray, List.set_cons_zero, List.set_cons_succ, List.getElem_toArray, List.getElem_cons_zero, List.getElem_cons_succ]
    refine wpAnyH_take (i := 41) (v := ?vc41) rfl (by kernel_rfl) (by kernel_rfl) (by kernel_rfl) (fun _ _ _ h => h) (Or.inl ⟨by rfl, ?hyc41⟩) xx ?rc41
    case hyc41 => (intro w hSw; (try dsimp only at hSw); go_simp; first | done | with_reducible rfl)
    try simp only [Act.put, List.setIfInBounds_toArray, List.set_cons_zero, List.set_cons_succ, List.getElem_toArray, List.getElem_cons_zero, List.getElem_cons_succ]
    refine wpAnyH_take (i := 42) (v := ?vc42) rfl (by kernel_rfl) (by kernel_rfl) (by kernel_rfl) (fun _ _ _ h => h) (Or.inl ⟨by rfl, ?hyc42⟩) xx ?rc42
    case hyc42 => (intro w hSw; (try dsimp only at hSw); go_simp; first | done | with_reducible rfl)
    try simp only [Act.put, List.setIfInBounds_toArray, List.set_cons_zero, List.set_cons_succ, List.getElem_toArray, List.getElem_cons_zero, List.getElem_cons_succ]
    refine wpAnyH_done (by kernel_rfl) ?_ _
    refine NoPanic.normal ?_
    go_wp2
    go_ret
    exact ⟨rfl, nextB K.out KK.out⟩
theorem prT_zero (l : List UInt8) (h : (prT l).2.2.1 ≠ 0) : (prT l).1 = zeroT := by
  unfold prT at h ⊢
  by_cases hn : l.length < 3 ∨ l.take 3 ≠ [73, 68, 51]
  · rw [if_pos hn] at h
    exact absurd rfl h
  rw [if_neg hn] at h ⊢
  simp only at h ⊢
  generalize hdM (Rd.new l 0) = A at h ⊢
  generalize A.1.safe.1.take A.1.safe.2 = b at h ⊢
  by_cases h1 : b.1.cd ≠ 0
  · rw [if_pos h1]
  rw [if_neg h1] at h ⊢
  generalize (if wholeB A.2.v A.2.fl = true then sndDrop false b.2 else b.2) = body at h ⊢
  generalize frsM A.2.v (tb A.2.fl 128) (skM A.2.v A.2.fl (Rd.new body 10)) = r at h ⊢
  by_cases h2 : r.1.cd ≠ 0
  · rw [if_pos h2]
  rw [if_neg h2] at h ⊢
  generalize (if footB A.2.v A.2.fl = true then ((b.1.want [51, 68, 73]).1.want ((l.drop 3).take 7)).1 else b.1) = m5 at h ⊢
  by_cases h3 : m5.cd ≠ 0
  · rw [if_pos h3]
  rw [if_neg h3] at h
  exact absurd rfl h
theorem prT_frames (l : List UInt8) (hl : l.length ≤ 24000) : (prT l).1.fs.length ≤ 24000 := by
  by_cases hc : (prT l).2.2.1 = 0
  · rcases prT_sound l hl (prT l).1 (prT l).2.1 (prT l).2.2.2 (by rw [← hc]) with ⟨h1, _, _⟩ | ⟨_, _, _, h4, _⟩
    · rw [h1]; exact Nat.zero_le _
    · omega
  · rw [prT_zero l hc]
    exact Nat.zero_le _
theorem tb_128n : ∀ n : Nat, n < 256 → decide ((128 : Int) ≤ (n : Int)) = (((n &&& 128 : Nat) : Int) != 0) := by decide +kernel
theorem walk_TagReads (l : List UInt8) (hl : l.length ≤ maxLen) (w : World) : Calls Try.prog 6 #[.string ⟨l.toArray⟩] w fun e w' => e = .returned (.bool true) ∧ Below w.heap.size w w' := by
  by_cases h : (2000 : Int) < l.length
  · exact treads_over l w h
  have hl2 : l.length ≤ 2000 := by omega
  have BG := Lib.hid (fun w => rbegins_any l w)
  by_cases hn : l.length < 3 ∨ l.take 3 ≠ [73, 68, 51]
  · rw [decide_eq_false (fun hx => hx hn)] at BG
    have e : prT l = (zeroT, l, 0, 0) := by unfold prT; rw [if_pos hn]
    refine treads_none l w h BG (Lib.hid fun w => (tparse_any l w (by omega)).mono (fun e' w' hh => ?_))
    rw [e] at hh
    exact tpw_of zeroT l 0 0 0 rfl w w' e' hh
  · rw [decide_eq_true hn] at BG
    have PA := Lib.hid (fun w => (tparse_any l w (by omega)).mono (fun e w' => tpw_of (prT l).1 (prT l).2.1 (prT l).2.2.1 (prT l).2.2.2 (prT l).1.fs.length rfl w w' e))
    have PR := Lib.hid (fun w => (rtparse_any l w (by omega) hn).mono (fun e w' => rpw_of (prT l).1 (prT l).2.1 (prT l).2.2.1 (prT l).2.2.2 (prT l).1.fs.length rfl w w' e))
    have hf := prT_frames l (by omega)
    generalize (prT l).1 = t at *
    generalize (prT l).2.1 = rest at *
    generalize (prT l).2.2.1 = c at *
    generalize (prT l).2.2.2 = q at *
    refine treads_in l rest t.v t.rv t.fl t.fs.length t.fs c q (footB t.v t.fl) w h (by omega) BG PA PR (Lib.hid fun w => by rw [tb_128n t.fl.toNat (UInt8.toNat_lt t.fl)]; exact tspread_any t.v t.rv t.fl w) (Lib.hid fun w => foot_any t.v t.rv t.fl w) (Lib.hid ?_)
    by_cases h4 : t.v = 4
    · left
      refine ⟨by simpa using h4, Lib.hid fun w => ?_⟩
      have hb := bit_any t.fl 16 w (by decide) (by decide)
      rw [(bt_tb t.fl).2.2.1] at hb
      unfold footB
      rw [if_pos h4]
      exact hb
    · right
      exact ⟨by simpa using h4, by unfold footB; rw [if_neg h4]⟩
end Go.Proofs.Ytmnmonmbdgedbaa
