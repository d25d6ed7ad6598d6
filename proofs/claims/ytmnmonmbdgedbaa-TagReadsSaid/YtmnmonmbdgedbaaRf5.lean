/- Layer 13 (frame): the document's Parse, walked: a wrong letter (printed by gen_rf5.py). -/
import Derived.Test.YtmnmonmbdgedbaaRf4
import Derived.Test.YtmnmonmbdgedbaaTg2
import Derived.Deep.Cut
import Derived.Deep.CutRange
namespace Go.Proofs.Ytmnmonmbdgedbaa
open Go.RowKit
set_option linter.unusedVariables false
set_option linter.unusedSimpArgs false

theorem set5_other {w : World} {xb c : Nat} (x : Rd) (h : c ≠ xb) : (((((w.setCell ⟨xb, 0, none⟩ (.string ⟨x.t.toArray⟩)).setCell ⟨xb, 1, none⟩ (.int .i64 x.nx)).setCell ⟨xb, 2, none⟩ (.int .i64 x.bs)).setCell ⟨xb, 3, none⟩ (.int .i64 x.cd)).setCell ⟨xb, 4, none⟩ (.int .i64 x.pl)).heap[c]? = w.heap[c]? := by
  rw [heap_set_other _ h, heap_set_other _ h, heap_set_other _ h, heap_set_other _ h, heap_set_other _ h]
set_option maxHeartbeats 4000000 in
set_option maxRecDepth 100000 in
theorem rparse_wrong (v : Int) (sp : Bool) (m m1 : Rd) (id : List UInt8) (c : UInt8) (k : Nat) (w : World) (hb0 : 0 ≤ m.bs) (hb1 : m.bs ≤ 3000000000000) (hn1 : (m.nx : Int) ≤ 1000000000) (hc0 : ((c.toNat : Int) == 0) = false) (hk0 : ((k : Int) == 0) = false) (hid : id.length ≤ 4) (hwr : wrongN id < id.length)
    (PK : Hid (∀ w, Calls Try.prog 127 #[.agg #[.string ⟨m.t.toArray⟩, .int .i64 m.nx, .int .i64 m.bs, .int .i64 m.cd, .int .i64 m.pl], .int .i64 1] w fun e w' => e = .returned (.string ⟨[c].toArray⟩) ∧ Below w.heap.size w w'))
    (LT : Hid (∀ w, Calls Try.prog 128 #[.int .i64 v] w fun e w' => e = .returned (.int .i64 (k : Nat)) ∧ w = w'))
    (TK : Hid (∀ w, Calls Try.prog 68 #[.agg #[.string ⟨m.t.toArray⟩, .int .i64 m.nx, .int .i64 m.bs, .int .i64 m.cd, .int .i64 m.pl], .int .i64 (k : Nat)] w fun e w' => e = .returned (.tuple #[.agg #[.string ⟨m1.t.toArray⟩, .int .i64 m1.nx, .int .i64 m1.bs, .int .i64 m1.cd, .int .i64 m1.pl], .string ⟨id.toArray⟩]) ∧ Below w.heap.size w w'))
    : Calls Try.prog 105 #[.int .i64 v, rdV m, .bool sp] w (RPar (m1.fail 1 (m.bs + (m.nx : Int) + (wrongN id : Nat))) zeroF false w) := by
  unfold RPar
  obtain ⟨pl, hpl⟩ : ∃ pl, pl = m.bs + (m.nx : Int) := ⟨_, rfl⟩
  have wp : IntKind.i64.wrap (m.bs + (m.nx : Int)) = pl := by rw [hpl]; exact IntWalk.i64_in _ (by omega)
  rw [← hpl]
  have hplb : 0 ≤ pl ∧ pl ≤ 3001000000000 := by omega
  have HPL := Lib.hid hpl
  clear hpl
  go_enter Try.func105, Try.ntmps105
  go_upto_region 1 with (fail)
  have X := Lib.hid (Px.init w m)
  obtain ⟨xb, hxb⟩ : ∃ xb, xb = w.heap.size := ⟨_, rfl⟩
  rw [← hxb] at X
  rw [← hxb]
  clear hxb
  generalize ((w.alloc (.cells #[.string ⟨m.t.toArray⟩, .int .i64 m.nx, .int .i64 m.bs, .int .i64 m.cd, .int .i64 m.pl] 103)).alloc (.cells #[.string ⟨#[]⟩, .int .i64 0, .int .i64 0, .int .i64 0, .int .i64 0] 103)).alloc (.cells #[.string ⟨#[]⟩, .int .i64 0, .int .i64 0, .int .i64 0, .string ⟨#[]⟩, .int .i64 0] 100) = wv at *
  have qa := X.out.r.all; obtain ⟨⟨q0, q1, q2, q3, q4⟩, qf0, qf1, qf2, qf3, qf4⟩ := qa
  go_upto_region 6 with (first | (go_at_call 127; refine (PK.out _).mono ?_; rintro e w1 ⟨rfl, hb1⟩; clear q0 q1 q2 q3 q4 qf0 qf1 qf2 qf3 qf4; replace X := Lib.hid (X.out.below hb1); clear hb1; have qa := X.out.r.all; obtain ⟨⟨q0, q1, q2, q3, q4⟩, qf0, qf1, qf2, qf3, qf4⟩ := qa) | (go_at_call 128; refine (LT.out _).mono ?_; rintro e wx ⟨rfl, rfl⟩))
  have F := Lib.hid (at_a0 w1 #[.string ⟨#[]⟩, .int .i64 0, .int .i64 0, .int .i64 0, .string ⟨#[]⟩, .int .i64 pl] 100)
  have ht := X.out.lt
  replace X := Lib.hid (X.out.below ((Below.refl _ _).alloc (Nat.le_refl _) (.cells #[.string ⟨#[]⟩, .int .i64 0, .int .i64 0, .int .i64 0, .string ⟨#[]⟩, .int .i64 pl] 100)))
  clear q0 q1 q2 q3 q4 qf0 qf1 qf2 qf3 qf4
  generalize w1.alloc (.cells #[.string ⟨#[]⟩, .int .i64 0, .int .i64 0, .int .i64 0, .string ⟨#[]⟩, .int .i64 pl] 100) = wu at *
  generalize w1.heap.size = tb at *
  have qa := X.out.r.all; obtain ⟨⟨q0, q1, q2, q3, q4⟩, qf0, qf1, qf2, qf3, qf4⟩ := qa
  have g0 := cell_at (j := 0) F.out
  have ff0 := free_at (j := 0) F.out
  have hne : xb ≠ tb := by omega
  have hne2 : tb ≠ xb := by omega
  go_cut [10, 11] from 41 to 48 (fun s10 s11 wx => s10 = .pointer (some ⟨tb, 0, none⟩) ∧ s11 = .int .i64 pl ∧ Hid (Px w wx xb m1) ∧ Hid (wx.heap[tb]? = some (.cells #[.string ⟨id.toArray⟩, .int .i64 0, .int .i64 0, .int .i64 0, .string ⟨#[]⟩, .int .i64 pl] 100 (0, 0))))
  case first =>
    refine wp_region_noPanic ?_
    refine wp_region_held_drew (S := fun _ => True) (by kernel_rfl) trivial (fun hHeld => ?_)
    clear hHeld
    try simp only [Act.put, List.setIfInBounds_toArray, List.set_cons_zero, List.set_cons_succ, List.getElem_toArray, List.getElem_cons_zero, List.getElem_cons_succ]
    refine wpAnyH_take (i := 1) (v := ?vm) rfl (by kernel_rfl) (by kernel_rfl) (by kernel_rfl) (fun _ _ _ h => h) (Or.inl ⟨by rfl, ?hym⟩) trivial ?rm
    case hym => (intro w hSw; go_simp; first | done | with_reducible rfl)
    try simp only [Act.put, List.setIfInBounds_toArray, List.set_cons_zero, List.set_cons_succ, List.getElem_toArray, List.getElem_cons_zero, List.getElem_cons_succ]
    refine wpAnyH_ready (rs := [0, 2]) (by kernel_rfl) (by simp) ?_
    refine AllReadyH.cons rfl (fun K hK => ?_) ?_
    · go_simp
      refine hK.out _ _ trivial (fun hHeld => ?_)
      clear hK K hHeld
      try simp only [Act.put, List.setIfInBounds_toArray, List.set_cons_zero, List.set_cons_succ, List.getElem_toArray, List.getElem_cons_zero, List.getElem_cons_succ]
      refine wpAnyH_ready (rs := [2]) (by kernel_rfl) (by simp) ?_
      refine AllReadyH.cons rfl (fun K hK => ?_) AllReadyH.nil
      go_simp
      (go_at_call 128; refine (LT.out _).mono ?_; rintro e wx ⟨rfl, rfl⟩)
      refine hK.out _ _ trivial (fun hHeld => ?_)
      clear hK K hHeld
      try simp only [Act.put, List.setIfInBounds_toArray, List.set_cons_zero, List.set_cons_succ, List.getElem_toArray, List.getElem_cons_zero, List.getElem_cons_succ]
      refine wpAnyH_ready (rs := [3]) (by kernel_rfl) (by simp) ?_
      refine AllReadyH.cons rfl (fun K hK => ?_) AllReadyH.nil
      go_simp
      (go_at_call 68; refine (TK.out _).mono ?_; rintro e w6 ⟨rfl, hb6⟩; clear q0 q1 q2 q3 q4 qf0 qf1 qf2 qf3 qf4; clear ff0 g0; replace X := Lib.hid (X.out.below (fr_drewB hb6)); replace F := Lib.hid (block_below F.out (fr_drewB hb6)); clear hb6; have qa := X.out.r.all; obtain ⟨⟨q0, q1, q2, q3, q4⟩, qf0, qf1, qf2, qf3, qf4⟩ := qa; have g0 := cell_at (j := 0) F.out; have ff0 := free_at (j := 0) F.out)
      refine hK.out _ _ trivial (fun hHeld => ?_)
      clear hK K hHeld
      try simp only [Act.put, List.setIfInBounds_toArray, List.set_cons_zero, List.set_cons_succ, List.getElem_toArray, List.getElem_cons_zero, List.getElem_cons_succ]
      refine wpAnyH_take (i := 4) (v := ?va1) rfl (by kernel_rfl) (by kernel_rfl) (by kernel_rfl) (fun _ _ _ h => h) (Or.inl ⟨by rfl, ?hya1⟩) trivial ?ra1
      case hya1 => (intro w hSw; go_simp; first | done | with_reducible rfl)
      try simp only [Act.put, List.setIfInBounds_toArray, List.set_cons_zero, List.set_cons_succ, List.getElem_toArray, List.getElem_cons_zero, List.getElem_cons_succ]
      refine wpAnyH_take (i := 5) (v := ?vb1) rfl (by kernel_rfl) (by kernel_rfl) (by kernel_rfl) (fun _ _ _ h => h) (Or.inl ⟨by rfl, ?hyb1⟩) trivial ?rb1
      case hyb1 => (intro w hSw; go_simp; first | done | with_reducible rfl)
      try simp only [Act.put, List.setIfInBounds_toArray, List.set_cons_zero, List.set_cons_succ, List.getElem_toArray, List.getElem_cons_zero, List.getElem_cons_succ]
      refine wpAnyH_take (i := 6) (v := ?vc1) rfl (by kernel_rfl) (by kernel_rfl) (by kernel_rfl) (fun _ _ _ h => h) (Or.inl ⟨by rfl, ?hyc1⟩) trivial ?rc1
      case hyc1 => (intro w hSw; go_simp; first | done | with_reducible rfl)
      try simp only [Act.put, List.setIfInBounds_toArray, List.set_cons_zero, List.set_cons_succ, List.getElem_toArray, List.getElem_cons_zero, List.getElem_cons_succ]
      refine wpAnyH_ready (rs := [7]) (by kernel_rfl) (by simp) ?_
      refine AllReadyH.cons rfl (fun K hK => ?_) AllReadyH.nil
      go_simp
      refine hK.out _ _ trivial (fun hHeld => ?_)
      clear hK K hHeld
      try simp only [Act.put, List.setIfInBounds_toArray, List.set_cons_zero, List.set_cons_succ, List.getElem_toArray, List.getElem_cons_zero, List.getElem_cons_succ]
      refine wpAnyH_take (i := 8) (v := ?vz1) rfl (by kernel_rfl) (by kernel_rfl) (by kernel_rfl) (fun _ _ _ h => h) (Or.inl ⟨by rfl, ?hyz1⟩) trivial ?rz1
      case hyz1 => (intro w hSw; go_simp; first | done | with_reducible rfl)
      try simp only [Act.put, List.setIfInBounds_toArray, List.set_cons_zero, List.set_cons_succ, List.getElem_toArray, List.getElem_cons_zero, List.getElem_cons_succ]
      refine wpAnyH_ready (rs := [9]) (by kernel_rfl) (by simp) ?_
      refine AllReadyH.cons rfl (fun K hK => ?_) AllReadyH.nil
      go_simp
      refine hK.out _ _ trivial (fun hHeld => ?_)
      clear hK K hHeld
      try simp only [Act.put, List.setIfInBounds_toArray, List.set_cons_zero, List.set_cons_succ, List.getElem_toArray, List.getElem_cons_zero, List.getElem_cons_succ]
      refine wpAnyH_done (by kernel_rfl) ?_ _
      refine NoPanic.normal ?_
      go_wp2_with fail
      go_meet
      exact ⟨rfl, rfl, Lib.hid ((X.out.setr m1).other 0 _ ht), Lib.hid (setCell_at ((set5_other m1 (Ne.symm hne)).trans F.out))⟩
    · refine AllReadyH.cons rfl (fun K hK => ?_) AllReadyH.nil
      go_simp
      (go_at_call 128; refine (LT.out _).mono ?_; rintro e wx ⟨rfl, rfl⟩)
      refine hK.out _ _ trivial (fun hHeld => ?_)
      clear hK K hHeld
      try simp only [Act.put, List.setIfInBounds_toArray, List.set_cons_zero, List.set_cons_succ, List.getElem_toArray, List.getElem_cons_zero, List.getElem_cons_succ]
      refine wpAnyH_ready (rs := [0]) (by kernel_rfl) (by simp) ?_
      refine AllReadyH.cons rfl (fun K hK => ?_) AllReadyH.nil
      go_simp
      refine hK.out _ _ trivial (fun hHeld => ?_)
      clear hK K hHeld
      try simp only [Act.put, List.setIfInBounds_toArray, List.set_cons_zero, List.set_cons_succ, List.getElem_toArray, List.getElem_cons_zero, List.getElem_cons_succ]
      refine wpAnyH_ready (rs := [3]) (by kernel_rfl) (by simp) ?_
      refine AllReadyH.cons rfl (fun K hK => ?_) AllReadyH.nil
      go_simp
      (go_at_call 68; refine (TK.out _).mono ?_; rintro e w6 ⟨rfl, hb6⟩; clear q0 q1 q2 q3 q4 qf0 qf1 qf2 qf3 qf4; clear ff0 g0; replace X := Lib.hid (X.out.below (fr_drewB hb6)); replace F := Lib.hid (block_below F.out (fr_drewB hb6)); clear hb6; have qa := X.out.r.all; obtain ⟨⟨q0, q1, q2, q3, q4⟩, qf0, qf1, qf2, qf3, qf4⟩ := qa; have g0 := cell_at (j := 0) F.out; have ff0 := free_at (j := 0) F.out)
      refine hK.out _ _ trivial (fun hHeld => ?_)
      clear hK K hHeld
      try simp only [Act.put, List.setIfInBounds_toArray, List.set_cons_zero, List.set_cons_succ, List.getElem_toArray, List.getElem_cons_zero, List.getElem_cons_succ]
      refine wpAnyH_take (i := 4) (v := ?va2) rfl (by kernel_rfl) (by kernel_rfl) (by kernel_rfl) (fun _ _ _ h => h) (Or.inl ⟨by rfl, ?hya2⟩) trivial ?ra2
      case hya2 => (intro w hSw; go_simp; first | done | with_reducible rfl)
      try simp only [Act.put, List.setIfInBounds_toArray, List.set_cons_zero, List.set_cons_succ, List.getElem_toArray, List.getElem_cons_zero, List.getElem_cons_succ]
      refine wpAnyH_take (i := 5) (v := ?vb2) rfl (by kernel_rfl) (by kernel_rfl) (by kernel_rfl) (fun _ _ _ h => h) (Or.inl ⟨by rfl, ?hyb2⟩) trivial ?rb2
      case hyb2 => (intro w hSw; go_simp; first | done | with_reducible rfl)
      try simp only [Act.put, List.setIfInBounds_toArray, List.set_cons_zero, List.set_cons_succ, List.getElem_toArray, List.getElem_cons_zero, List.getElem_cons_succ]
      refine wpAnyH_take (i := 6) (v := ?vc2) rfl (by kernel_rfl) (by kernel_rfl) (by kernel_rfl) (fun _ _ _ h => h) (Or.inl ⟨by rfl, ?hyc2⟩) trivial ?rc2
      case hyc2 => (intro w hSw; go_simp; first | done | with_reducible rfl)
      try simp only [Act.put, List.setIfInBounds_toArray, List.set_cons_zero, List.set_cons_succ, List.getElem_toArray, List.getElem_cons_zero, List.getElem_cons_succ]
      refine wpAnyH_ready (rs := [7]) (by kernel_rfl) (by simp) ?_
      refine AllReadyH.cons rfl (fun K hK => ?_) AllReadyH.nil
      go_simp
      refine hK.out _ _ trivial (fun hHeld => ?_)
      clear hK K hHeld
      try simp only [Act.put, List.setIfInBounds_toArray, List.set_cons_zero, List.set_cons_succ, List.getElem_toArray, List.getElem_cons_zero, List.getElem_cons_succ]
      refine wpAnyH_take (i := 8) (v := ?vz2) rfl (by kernel_rfl) (by kernel_rfl) (by kernel_rfl) (fun _ _ _ h => h) (Or.inl ⟨by rfl, ?hyz2⟩) trivial ?rz2
      case hyz2 => (intro w hSw; go_simp; first | done | with_reducible rfl)
      try simp only [Act.put, List.setIfInBounds_toArray, List.set_cons_zero, List.set_cons_succ, List.getElem_toArray, List.getElem_cons_zero, List.getElem_cons_succ]
      refine wpAnyH_ready (rs := [9]) (by kernel_rfl) (by simp) ?_
      refine AllReadyH.cons rfl (fun K hK => ?_) AllReadyH.nil
      go_simp
      refine hK.out _ _ trivial (fun hHeld => ?_)
      clear hK K hHeld
      try simp only [Act.put, List.setIfInBounds_toArray, List.set_cons_zero, List.set_cons_succ, List.getElem_toArray, List.getElem_cons_zero, List.getElem_cons_succ]
      refine wpAnyH_done (by kernel_rfl) ?_ _
      refine NoPanic.normal ?_
      go_wp2_with fail
      go_meet
      exact ⟨rfl, rfl, Lib.hid ((X.out.setr m1).other 0 _ ht), Lib.hid (setCell_at ((set5_other m1 (Ne.symm hne)).trans F.out))⟩
  case rest =>
    obtain ⟨rfl, rfl, X2, F2⟩ := hcut
    clear X F g0 ff0
    clear q0 q1 q2 q3 q4 qf0 qf1 qf2 qf3 qf4
    have X := X2
    have F := F2
    clear X2 F2
    have qa := X.out.r.all; obtain ⟨⟨q0, q1, q2, q3, q4⟩, qf0, qf1, qf2, qf3, qf4⟩ := qa
    obtain ⟨g0, g1, g2, g3, g4, g5⟩ := cells6 (F.out); obtain ⟨gf0, gf1, gf2, gf3, gf4, gf5⟩ := frees6 (F.out)
    go_wp2
    go_loop [12] (fun i => ∃ (j : Nat), j ≤ id.length ∧ i = .int .i64 j ∧ Hid (∀ y ∈ id.take j, badC y = false)) (fun i => id.length - (intOf i).toNat)
    case atStart => exact ⟨0, by omega, rfl, Lib.hid (by simp)⟩
    case round =>
      obtain ⟨j, hj, rfl, HG⟩ := hrel
      by_cases hlt : j < id.length
      · have h0 : (j : Int) < id.length := by omega
        have LE := Lib.hid (fun w => letter_any id[j] w)
        rcases hbd : badC id[j] with _ | _
        · have HN := Lib.hid (take_all_snoc (P := fun y => badC y = false) hlt HG.out hbd)
          rw [hbd] at LE
          clear hbd
          go_wp2_with (go_at_call 129; refine (LE.out _).mono ?_; rintro e wx ⟨rfl, rfl⟩)
          go_round
          case rel => exact ⟨j + 1, by omega, by go_num, HN⟩
          case measure => simp [intOf]; omega
        · have HW : Hid (wrongN id = j) := Lib.hid (findIdx_of (p := badC) hlt HG.out hbd)
          rw [hbd] at LE
          clear hbd
          have wj : IntKind.i64.wrap (pl + (j : Int)) = pl + (j : Int) := IntWalk.i64_in _ (by omega)
          have FL := Lib.hid (fun w => rfail_any m1 1 (pl + (j : Int)) w)
          obtain ⟨y, hy⟩ : ∃ y, y = m1.fail 1 (pl + (j : Int)) := ⟨_, rfl⟩
          rw [← hy] at FL
          have HY := Lib.hid hy
          clear hy
          go_wp2_with (first | (go_at_call 129; refine (LE.out _).mono ?_; rintro e wx ⟨rfl, rfl⟩) | (go_at_call 101; refine (FL.out _).mono ?_; rintro e w7 ⟨rfl, hb7⟩; replace X := Lib.hid (X.out.below hb7); clear hb7; obtain ⟨y0, y1, y2, y3, y4⟩ := cells5 (X.out.z6); obtain ⟨yf0, yf1, yf2, yf3, yf4⟩ := frees5 (X.out.z6); obtain ⟨z0, z1, z2, z3, z4, z5⟩ := cells6 (X.out.z7); obtain ⟨zf0, zf1, zf2, zf3, zf4, zf5⟩ := frees6 (X.out.z7)))
          obtain ⟨h8, h9, hk⟩ := X.out.fin y [] [] 0 0 0 0
          refine end_cct rfl rfl rfl h8 Try.underlying103 rfl info_ref01In rfl h9 Try.underlying100 rfl (by kernel_rfl) ⟨?_, hk⟩
          rw [HW.out, ← HY.out]
          rfl
      · exfalso
        have e0 : id.take j = id := List.take_of_length_le (by omega)
        have := HG.out
        rw [e0] at this
        have h1 : wrongN id = id.length := findIdx_none this
        omega
end Go.Proofs.Ytmnmonmbdgedbaa
