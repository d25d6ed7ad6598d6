/- Layer 13 (frame): the document's Parse, walked: all letters good (printed by gen_rf6.py). | Layer 13 (frame): the document's Parse, joined. -/
import Derived.Test.YtmnmonmbdgedbaaRf5
import Derived.Deep.DeepCutAuto

namespace Go.Proofs.Ytmnmonmbdgedbaa
open Go.RowKit
set_option linter.unusedVariables false
set_option linter.unusedSimpArgs false

set_option maxHeartbeats 8000000 in
set_option maxRecDepth 100000 in
theorem rparse_main (v : Int) (sp : Bool) (m m1 m2 m3 m4 m5 xo : Rd) (fo : Fr) (oo : Bool) (n st fm fm1 : Nat) (ad : Bool) (data : List UInt8) (id : List UInt8) (c : UInt8) (k : Nat) (w : World) (hb0 : 0 ≤ m.bs) (hb1 : m.bs ≤ 3000000000000) (hn1 : (m.nx : Int) ≤ 1000000000) (hc0 : ((c.toNat : Int) == 0) = false) (hk0 : ((k : Int) == 0) = false) (hid : id.length ≤ 4)
    (PK : Hid (∀ w, Calls Try.prog 127 #[.agg #[.string ⟨m.t.toArray⟩, .int .i64 m.nx, .int .i64 m.bs, .int .i64 m.cd, .int .i64 m.pl], .int .i64 1] w fun e w' => e = .returned (.string ⟨[c].toArray⟩) ∧ Below w.heap.size w w'))
    (LT : Hid (∀ w, Calls Try.prog 128 #[.int .i64 v] w fun e w' => e = .returned (.int .i64 (k : Nat)) ∧ w = w'))
    (TK : Hid (∀ w, Calls Try.prog 68 #[.agg #[.string ⟨m.t.toArray⟩, .int .i64 m.nx, .int .i64 m.bs, .int .i64 m.cd, .int .i64 m.pl], .int .i64 (k : Nat)] w fun e w' => e = .returned (.tuple #[.agg #[.string ⟨m1.t.toArray⟩, .int .i64 m1.nx, .int .i64 m1.bs, .int .i64 m1.cd, .int .i64 m1.pl], .string ⟨id.toArray⟩]) ∧ Below w.heap.size w w'))
    (hgood : ∀ y ∈ id, badC y = false) (hv : v = 2 ∨ v = 3 ∨ v = 4)
    (hz : ((v == 4) = true ∧ Hid (∀ w, Calls Try.prog 102 #[.agg #[.string ⟨m1.t.toArray⟩, .int .i64 m1.nx, .int .i64 m1.bs, .int .i64 m1.cd, .int .i64 m1.pl]] w fun e w' => e = .returned (.tuple #[.agg #[.string ⟨m2.t.toArray⟩, .int .i64 m2.nx, .int .i64 m2.bs, .int .i64 m2.cd, .int .i64 m2.pl], .int .i64 (n : Nat)]) ∧ Below w.heap.size w w')) ∨ ((v == 4) = false ∧ Hid (∀ w, Calls Try.prog 130 #[.agg #[.string ⟨m1.t.toArray⟩, .int .i64 m1.nx, .int .i64 m1.bs, .int .i64 m1.cd, .int .i64 m1.pl], .int .i64 (v + 1)] w fun e w' => e = .returned (.tuple #[.agg #[.string ⟨m2.t.toArray⟩, .int .i64 m2.nx, .int .i64 m2.bs, .int .i64 m2.cd, .int .i64 m2.pl], .int .i64 (n : Nat)]) ∧ Below w.heap.size w w')))
    (h4 : ((2 : Int) < v ∧ Hid (∀ w, Calls Try.prog 130 #[.agg #[.string ⟨m2.t.toArray⟩, .int .i64 m2.nx, .int .i64 m2.bs, .int .i64 m2.cd, .int .i64 m2.pl], .int .i64 1] w fun e w' => e = .returned (.tuple #[.agg #[.string ⟨m3.t.toArray⟩, .int .i64 m3.nx, .int .i64 m3.bs, .int .i64 m3.cd, .int .i64 m3.pl], .int .i64 (st : Nat)]) ∧ Below w.heap.size w w') ∧ Hid (∀ w, Calls Try.prog 130 #[.agg #[.string ⟨m3.t.toArray⟩, .int .i64 m3.nx, .int .i64 m3.bs, .int .i64 m3.cd, .int .i64 m3.pl], .int .i64 1] w fun e w' => e = .returned (.tuple #[.agg #[.string ⟨m4.t.toArray⟩, .int .i64 m4.nx, .int .i64 m4.bs, .int .i64 m4.cd, .int .i64 m4.pl], .int .i64 (fm : Nat)]) ∧ Below w.heap.size w w')) ∨ (¬ (2 : Int) < v ∧ m4 = m2 ∧ st = 0 ∧ fm = 0)) (hfm0 : fm ≤ 255)
    (hsp : ((v == 4) = false ∧ ad = false) ∨ ((v == 4) = true ∧ sp = false ∧ ad = false) ∨ ((v == 4) = true ∧ sp = true ∧ ad = false ∧ Hid (∀ w, Calls Try.prog 28 #[.int .i64 (fm : Nat), .int .i64 2] w fun e w' => e = .returned (.bool true) ∧ w = w')) ∨ ((v == 4) = true ∧ sp = true ∧ ad = true ∧ Hid (∀ w, Calls Try.prog 28 #[.int .i64 (fm : Nat), .int .i64 2] w fun e w' => e = .returned (.bool false) ∧ w = w')))
    (hfm : fm1 = if ad = true then fm + 2 else fm) (hb40 : 0 ≤ m4.bs) (hb41 : m4.bs ≤ 3000000000000) (hn41 : (m4.nx : Int) ≤ 1000000000)
    (TK5 : Hid (∀ w, Calls Try.prog 68 #[.agg #[.string ⟨m4.t.toArray⟩, .int .i64 m4.nx, .int .i64 m4.bs, .int .i64 m4.cd, .int .i64 m4.pl], .int .i64 (n : Nat)] w fun e w' => e = .returned (.tuple #[.agg #[.string ⟨m5.t.toArray⟩, .int .i64 m5.nx, .int .i64 m5.bs, .int .i64 m5.cd, .int .i64 m5.pl], .string ⟨data.toArray⟩]) ∧ Below w.heap.size w w'))
    (hend : Hid (((m5.cd != 0) = true ∧ xo = m5 ∧ fo = zeroF ∧ oo = false) ∨
      ((m5.cd != 0) = false ∧ xo = m5 ∧ oo = true ∧ rfV fo = .agg #[.string ⟨id.toArray⟩, .int .i64 (st : Nat), .int .i64 (fm1 : Nat), .int .i64 0, .string ⟨data.toArray⟩, .int .i64 (m.bs + (m.nx : Int))] ∧ Hid (∀ w, Calls Try.prog 131 #[.int .i64 v, .int .i64 (fm1 : Nat)] w fun e w' => e = .returned (.bool true) ∧ w = w')) ∨
      ((m5.cd != 0) = false ∧ (∃ (c9 p9 : Int) (g9 : Nat) (b9 : List UInt8), c9 ≠ 0 ∧ xo = m5.fail c9 p9 ∧ fo = zeroF ∧ oo = false ∧ Hid (∀ w, Calls Try.prog 131 #[.int .i64 v, .int .i64 (fm1 : Nat)] w fun e w' => e = .returned (.bool false) ∧ w = w') ∧ Hid (∀ w, Calls Try.prog 132 #[.int .i64 v, .agg #[.string ⟨id.toArray⟩, .int .i64 (st : Nat), .int .i64 (fm1 : Nat), .int .i64 0, .string ⟨data.toArray⟩, .int .i64 (m.bs + (m.nx : Int))], .string ⟨data.toArray⟩, .int .i64 (m4.bs + (m4.nx : Int))] w (RCon id (st : Nat) (fm1 : Nat) (g9 : Nat) b9 (m.bs + (m.nx : Int)) (c9, p9) w)))) ∨
      ((m5.cd != 0) = false ∧ xo = m5 ∧ oo = true ∧ ∃ (p9 : Int) (g9 : Nat) (b9 : List UInt8), rfV fo = .agg #[.string ⟨id.toArray⟩, .int .i64 (st : Nat), .int .i64 (fm1 : Nat), .int .i64 (g9 : Nat), .string ⟨b9.toArray⟩, .int .i64 (m.bs + (m.nx : Int))] ∧ Hid (∀ w, Calls Try.prog 131 #[.int .i64 v, .int .i64 (fm1 : Nat)] w fun e w' => e = .returned (.bool false) ∧ w = w') ∧ Hid (∀ w, Calls Try.prog 132 #[.int .i64 v, .agg #[.string ⟨id.toArray⟩, .int .i64 (st : Nat), .int .i64 (fm1 : Nat), .int .i64 0, .string ⟨data.toArray⟩, .int .i64 (m.bs + (m.nx : Int))], .string ⟨data.toArray⟩, .int .i64 (m4.bs + (m4.nx : Int))] w (RCon id (st : Nat) (fm1 : Nat) (g9 : Nat) b9 (m.bs + (m.nx : Int)) (0, p9) w)))))
    : Calls Try.prog 105 #[.int .i64 v, rdV m, .bool sp] w (RPar xo fo oo w) := by
  unfold RPar
  have HFM := Lib.hid hfm
  clear hfm
  have HGD := Lib.hid hgood
  clear hgood
  have wv1 : IntKind.i64.wrap (v + 1) = v + 1 := IntWalk.i64_in _ (by omega)
  obtain ⟨pl, hpl⟩ : ∃ pl, pl = m.bs + (m.nx : Int) := ⟨_, rfl⟩
  have wp : IntKind.i64.wrap (m.bs + (m.nx : Int)) = pl := by rw [hpl]; exact IntWalk.i64_in _ (by omega)
  try rw [← hpl]
  have hplb : 0 ≤ pl ∧ pl ≤ 3001000000000 := by omega
  have HPL := Lib.hid hpl
  clear hpl
  go_enter Try.func105, Try.ntmps105
  go_upto_region 1 with (fail)
  have X := Lib.hid (Px.init w m)
  obtain ⟨xb, hxb⟩ : ∃ xb, xb = w.heap.size := ⟨_, rfl⟩
  rw [← hxb] at X
  rw [← hxb]
  clear hxb
  generalize ((w.alloc (.cells #[.string ⟨m.t.toArray⟩, .int .i64 m.nx, .int .i64 m.bs, .int .i64 m.cd, .int .i64 m.pl] 103)).alloc (.cells #[.string ⟨#[]⟩, .int .i64 0, .int .i64 0, .int .i64 0, .int .i64 0] 103)).alloc (.cells #[.string ⟨#[]⟩, .int .i64 0, .int .i64 0, .int .i64 0, .string ⟨#[]⟩, .int .i64 0] 100) = wv at *
  have qa := X.out.r.all; obtain ⟨⟨q0, q1, q2, q3, q4⟩, qf0, qf1, qf2, qf3, qf4⟩ := qa
  go_upto_region 6 with (first | (go_at_call 127; refine (PK.out _).mono ?_; rintro e w1 ⟨rfl, hb1⟩; clear q0 q1 q2 q3 q4 qf0 qf1 qf2 qf3 qf4; replace X := Lib.hid (X.out.below hb1); clear hb1; have qa := X.out.r.all; obtain ⟨⟨q0, q1, q2, q3, q4⟩, qf0, qf1, qf2, qf3, qf4⟩ := qa) | (go_at_call 128; refine (LT.out _).mono ?_; rintro e wx ⟨rfl, rfl⟩))
  have F := Lib.hid (at_a0 w1 #[.string ⟨#[]⟩, .int .i64 0, .int .i64 0, .int .i64 0, .string ⟨#[]⟩, .int .i64 pl] 100)
  have ht := X.out.lt
  replace X := Lib.hid (X.out.below ((Below.refl _ _).alloc (Nat.le_refl _) (.cells #[.string ⟨#[]⟩, .int .i64 0, .int .i64 0, .int .i64 0, .string ⟨#[]⟩, .int .i64 pl] 100)))
  clear q0 q1 q2 q3 q4 qf0 qf1 qf2 qf3 qf4
  generalize w1.alloc (.cells #[.string ⟨#[]⟩, .int .i64 0, .int .i64 0, .int .i64 0, .string ⟨#[]⟩, .int .i64 pl] 100) = wu at *
  generalize w1.heap.size = tb at *
  have qa := X.out.r.all; obtain ⟨⟨q0, q1, q2, q3, q4⟩, qf0, qf1, qf2, qf3, qf4⟩ := qa
  have g0 := cell_at (j := 0) F.out
  have ff0 := free_at (j := 0) F.out
  have hne : xb ≠ tb := by omega
  have hne2 : tb ≠ xb := by omega
  go_cut [10, 11] from 41 to 48 (fun s10 s11 wx => s10 = .pointer (some ⟨tb, 0, none⟩) ∧ s11 = .int .i64 pl ∧ Hid (Px w wx xb m1) ∧ Hid (wx.heap[tb]? = some (.cells #[.string ⟨id.toArray⟩, .int .i64 0, .int .i64 0, .int .i64 0, .string ⟨#[]⟩, .int .i64 pl] 100 (0, 0))))
  case first =>
    refine wp_region_noPanic ?_
    refine wp_region_held_drew (S := fun _ => True) (by kernel_rfl) trivial (fun hHeld => ?_)
    clear hHeld
    try simp only [Act.put, List.setIfInBounds_toArray, List.set_cons_zero, List.set_cons_succ, List.getElem_toArray, List.getElem_cons_zero, List.getElem_cons_succ]
    refine wpAnyH_take (i := 1) (v := ?vm) rfl (by kernel_rfl) (by kernel_rfl) (by kernel_rfl) (fun _ _ _ h => h) (Or.inl ⟨by rfl, ?hym⟩) trivial ?rm
    case hym => (intro w hSw; go_simp; first | done | with_reducible rfl)
    try simp only [Act.put, List.setIfInBounds_toArray, List.set_cons_zero, List.set_cons_succ, List.getElem_toArray, List.getElem_cons_zero, List.getElem_cons_succ]
    refine wpAnyH_ready (rs := [0, 2]) (by kernel_rfl) (by simp) ?_
    refine AllReadyH.cons rfl (fun K hK => ?_) ?_
    · go_simp
      refine hK.out _ _ trivial (fun hHeld => ?_)
      clear hK K hHeld
      try simp only [Act.put, List.setIfInBounds_toArray, List.set_cons_zero, List.set_cons_succ, List.getElem_toArray, List.getElem_cons_zero, List.getElem_cons_succ]
      refine wpAnyH_ready (rs := [2]) (by kernel_rfl) (by simp) ?_
      refine AllReadyH.cons rfl (fun K hK => ?_) AllReadyH.nil
      go_simp
      (go_at_call 128; refine (LT.out _).mono ?_; rintro e wx ⟨rfl, rfl⟩)
      refine hK.out _ _ trivial (fun hHeld => ?_)
      clear hK K hHeld
      try simp only [Act.put, List.setIfInBounds_toArray, List.set_cons_zero, List.set_cons_succ, List.getElem_toArray, List.getElem_cons_zero, List.getElem_cons_succ]
      refine wpAnyH_ready (rs := [3]) (by kernel_rfl) (by simp) ?_
      refine AllReadyH.cons rfl (fun K hK => ?_) AllReadyH.nil
      go_simp
      (go_at_call 68; refine (TK.out _).mono ?_; rintro e w6 ⟨rfl, hb6⟩; clear q0 q1 q2 q3 q4 qf0 qf1 qf2 qf3 qf4; clear ff0 g0; replace X := Lib.hid (X.out.below (fr_drewB hb6)); replace F := Lib.hid (block_below F.out (fr_drewB hb6)); clear hb6; have qa := X.out.r.all; obtain ⟨⟨q0, q1, q2, q3, q4⟩, qf0, qf1, qf2, qf3, qf4⟩ := qa; have g0 := cell_at (j := 0) F.out; have ff0 := free_at (j := 0) F.out)
      refine hK.out _ _ trivial (fun hHeld => ?_)
      clear hK K hHeld
      try simp only [Act.put, List.setIfInBounds_toArray, List.set_cons_zero, List.set_cons_succ, List.getElem_toArray, List.getElem_cons_zero, List.getElem_cons_succ]
      refine wpAnyH_take (i := 4) (v := ?va1) rfl (by kernel_rfl) (by kernel_rfl) (by kernel_rfl) (fun _ _ _ h => h) (Or.inl ⟨by rfl, ?hya1⟩) trivial ?ra1
      case hya1 => (intro w hSw; go_simp; first | done | with_reducible rfl)
      try simp only [Act.put, List.setIfInBounds_toArray, List.set_cons_zero, List.set_cons_succ, List.getElem_toArray, List.getElem_cons_zero, List.getElem_cons_succ]
      refine wpAnyH_take (i := 5) (v := ?vb1) rfl (by kernel_rfl) (by kernel_rfl) (by kernel_rfl) (fun _ _ _ h => h) (Or.inl ⟨by rfl, ?hyb1⟩) trivial ?rb1
      case hyb1 => (intro w hSw; go_simp; first | done | with_reducible rfl)
      try simp only [Act.put, List.setIfInBounds_toArray, List.set_cons_zero, List.set_cons_succ, List.getElem_toArray, List.getElem_cons_zero, List.getElem_cons_succ]
      refine wpAnyH_take (i := 6) (v := ?vc1) rfl (by kernel_rfl) (by kernel_rfl) (by kernel_rfl) (fun _ _ _ h => h) (Or.inl ⟨by rfl, ?hyc1⟩) trivial ?rc1
      case hyc1 => (intro w hSw; go_simp; first | done | with_reducible rfl)
      try simp only [Act.put, List.setIfInBounds_toArray, List.set_cons_zero, List.set_cons_succ, List.getElem_toArray, List.getElem_cons_zero, List.getElem_cons_succ]
      refine wpAnyH_ready (rs := [7]) (by kernel_rfl) (by simp) ?_
      refine AllReadyH.cons rfl (fun K hK => ?_) AllReadyH.nil
      go_simp
      refine hK.out _ _ trivial (fun hHeld => ?_)
      clear hK K hHeld
      try simp only [Act.put, List.setIfInBounds_toArray, List.set_cons_zero, List.set_cons_succ, List.getElem_toArray, List.getElem_cons_zero, List.getElem_cons_succ]
      refine wpAnyH_take (i := 8) (v := ?vz1) rfl (by kernel_rfl) (by kernel_rfl) (by kernel_rfl) (fun _ _ _ h => h) (Or.inl ⟨by rfl, ?hyz1⟩) trivial ?rz1
      case hyz1 => (intro w hSw; go_simp; first | done | with_reducible rfl)
      try simp only [Act.put, List.setIfInBounds_toArray, List.set_cons_zero, List.set_cons_succ, List.getElem_toArray, List.getElem_cons_zero, List.getElem_cons_succ]
      refine wpAnyH_ready (rs := [9]) (by kernel_rfl) (by simp) ?_
      refine AllReadyH.cons rfl (fun K hK => ?_) AllReadyH.nil
      go_simp
      refine hK.out _ _ trivial (fun hHeld => ?_)
      clear hK K hHeld
      try simp only [Act.put, List.setIfInBounds_toArray, List.set_cons_zero, List.set_cons_succ, List.getElem_toArray, List.getElem_cons_zero, List.getElem_cons_succ]
      refine wpAnyH_done (by kernel_rfl) ?_ _
      refine NoPanic.normal ?_
      go_wp2_with fail
      go_meet
      exact ⟨rfl, rfl, Lib.hid ((X.out.setr m1).other 0 _ ht), Lib.hid (setCell_at ((set5_other m1 (Ne.symm hne)).trans F.out))⟩
    · refine AllReadyH.cons rfl (fun K hK => ?_) AllReadyH.nil
      go_simp
      (go_at_call 128; refine (LT.out _).mono ?_; rintro e wx ⟨rfl, rfl⟩)
      refine hK.out _ _ trivial (fun hHeld => ?_)
      clear hK K hHeld
      try simp only [Act.put, List.setIfInBounds_toArray, List.set_cons_zero, List.set_cons_succ, List.getElem_toArray, List.getElem_cons_zero, List.getElem_cons_succ]
      refine wpAnyH_ready (rs := [0]) (by kernel_rfl) (by simp) ?_
      refine AllReadyH.cons rfl (fun K hK => ?_) AllReadyH.nil
      go_simp
      refine hK.out _ _ trivial (fun hHeld => ?_)
      clear hK K hHeld
      try simp only [Act.put, List.setIfInBounds_toArray, List.set_cons_zero, List.set_cons_succ, List.getElem_toArray, List.getElem_cons_zero, List.getElem_cons_succ]
      refine wpAnyH_ready (rs := [3]) (by kernel_rfl) (by simp) ?_
      refine AllReadyH.cons rfl (fun K hK => ?_) AllReadyH.nil
      go_simp
      (go_at_call 68; refine (TK.out _).mono ?_; rintro e w6 ⟨rfl, hb6⟩; clear q0 q1 q2 q3 q4 qf0 qf1 qf2 qf3 qf4; clear ff0 g0; replace X := Lib.hid (X.out.below (fr_drewB hb6)); replace F := Lib.hid (block_below F.out (fr_drewB hb6)); clear hb6; have qa := X.out.r.all; obtain ⟨⟨q0, q1, q2, q3, q4⟩, qf0, qf1, qf2, qf3, qf4⟩ := qa; have g0 := cell_at (j := 0) F.out; have ff0 := free_at (j := 0) F.out)
      refine hK.out _ _ trivial (fun hHeld => ?_)
      clear hK K hHeld
      try simp only [Act.put, List.setIfInBounds_toArray, List.set_cons_zero, List.set_cons_succ, List.getElem_toArray, List.getElem_cons_zero, List.getElem_cons_succ]
      refine wpAnyH_take (i := 4) (v := ?va2) rfl (by kernel_rfl) (by kernel_rfl) (by kernel_rfl) (fun _ _ _ h => h) (Or.inl ⟨by rfl, ?hya2⟩) trivial ?ra2
      case hya2 => (intro w hSw; go_simp; first | done | with_reducible rfl)
      try simp only [Act.put, List.setIfInBounds_toArray, List.set_cons_zero, List.set_cons_succ, List.getElem_toArray, List.getElem_cons_zero, List.getElem_cons_succ]
      refine wpAnyH_take (i := 5) (v := ?vb2) rfl (by kernel_rfl) (by kernel_rfl) (by kernel_rfl) (fun _ _ _ h => h) (Or.inl ⟨by rfl, ?hyb2⟩) trivial ?rb2
      case hyb2 => (intro w hSw; go_simp; first | done | with_reducible rfl)
      try simp only [Act.put, List.setIfInBounds_toArray, List.set_cons_zero, List.set_cons_succ, List.getElem_toArray, List.getElem_cons_zero, List.getElem_cons_succ]
      refine wpAnyH_take (i := 6) (v := ?vc2) rfl (by kernel_rfl) (by kernel_rfl) (by kernel_rfl) (fun _ _ _ h => h) (Or.inl ⟨by rfl, ?hyc2⟩) trivial ?rc2
      case hyc2 => (intro w hSw; go_simp; first | done | with_reducible rfl)
      try simp only [Act.put, List.setIfInBounds_toArray, List.set_cons_zero, List.set_cons_succ, List.getElem_toArray, List.getElem_cons_zero, List.getElem_cons_succ]
      refine wpAnyH_ready (rs := [7]) (by kernel_rfl) (by simp) ?_
      refine AllReadyH.cons rfl (fun K hK => ?_) AllReadyH.nil
      go_simp
      refine hK.out _ _ trivial (fun hHeld => ?_)
      clear hK K hHeld
      try simp only [Act.put, List.setIfInBounds_toArray, List.set_cons_zero, List.set_cons_succ, List.getElem_toArray, List.getElem_cons_zero, List.getElem_cons_succ]
      refine wpAnyH_take (i := 8) (v := ?vz2) rfl (by kernel_rfl) (by kernel_rfl) (by kernel_rfl) (fun _ _ _ h => h) (Or.inl ⟨by rfl, ?hyz2⟩) trivial ?rz2
      case hyz2 => (intro w hSw; go_simp; first | done | with_reducible rfl)
      try simp only [Act.put, List.setIfInBounds_toArray, List.set_cons_zero, List.set_cons_succ, List.getElem_toArray, List.getElem_cons_zero, List.getElem_cons_succ]
      refine wpAnyH_ready (rs := [9]) (by kernel_rfl) (by simp) ?_
      refine AllReadyH.cons rfl (fun K hK => ?_) AllReadyH.nil
      go_simp
      refine hK.out _ _ trivial (fun hHeld => ?_)
      clear hK K hHeld
      try simp only [Act.put, List.setIfInBounds_toArray, List.set_cons_zero, List.set_cons_succ, List.getElem_toArray, List.getElem_cons_zero, List.getElem_cons_succ]
      refine wpAnyH_done (by kernel_rfl) ?_ _
      refine NoPanic.normal ?_
      go_wp2_with fail
      go_meet
      exact ⟨rfl, rfl, Lib.hid ((X.out.setr m1).other 0 _ ht), Lib.hid (setCell_at ((set5_other m1 (Ne.symm hne)).trans F.out))⟩
  case rest =>
    obtain ⟨rfl, rfl, X2, F2⟩ := hcut
    clear X F g0 ff0
    clear q0 q1 q2 q3 q4 qf0 qf1 qf2 qf3 qf4
    have X := X2
    have F := F2
    clear X2 F2
    have qa := X.out.r.all; obtain ⟨⟨q0, q1, q2, q3, q4⟩, qf0, qf1, qf2, qf3, qf4⟩ := qa
    obtain ⟨g0, g1, g2, g3, g4, g5⟩ := cells6 (F.out); obtain ⟨gf0, gf1, gf2, gf3, gf4, gf5⟩ := frees6 (F.out)
    go_wp2
    go_loop [12] (fun i => ∃ (j : Nat), j ≤ id.length ∧ i = .int .i64 j) (fun i => id.length - (intOf i).toNat)
    case atStart => exact ⟨0, by omega, rfl⟩
    case round =>
      obtain ⟨j, hj, rfl⟩ := hrel
      by_cases hlt : j < id.length
      · have h0 : (j : Int) < id.length := by omega
        have LE := Lib.hid (fun w => letter_any id[j] w)
        rw [HGD.out _ (List.getElem_mem hlt)] at LE
        go_wp2_with (go_at_call 129; refine (LE.out _).mono ?_; rintro e wx ⟨rfl, rfl⟩)
        go_round
        case rel => exact ⟨j + 1, by omega, by go_num⟩
        case measure => simp [intOf]; omega
      · have h0 : ¬ (j : Int) < id.length := by omega
        go_upto_if 69 with (fail)
        go_cut [10, 11, 13] (fun s10 s11 s13 wx => s10 = .pointer (some ⟨tb, 0, none⟩) ∧ s11 = .int .i64 pl ∧ s13 = .int .i64 (n : Nat) ∧ Hid (Px w wx xb m2) ∧ Hid (wx.heap[tb]? = some (.cells #[.string ⟨id.toArray⟩, .int .i64 0, .int .i64 0, .int .i64 0, .string ⟨#[]⟩, .int .i64 pl] 100 (0, 0))))
        case first =>
          rcases hz with ⟨t4, SF⟩ | ⟨t4, SF⟩
          all_goals (
            go_wp2_with (first | (go_at_call 102; refine (SF.out _).mono ?_; rintro e w7 ⟨rfl, hb7⟩; clear q0 q1 q2 q3 q4 qf0 qf1 qf2 qf3 qf4; replace X := Lib.hid (X.out.below hb7); replace F := Lib.hid (block_below F.out hb7); clear hb7; have qa := X.out.r.all; obtain ⟨⟨q0, q1, q2, q3, q4⟩, qf0, qf1, qf2, qf3, qf4⟩ := qa) | (go_at_call 130; refine (SF.out _).mono ?_; rintro e w7 ⟨rfl, hb7⟩; clear q0 q1 q2 q3 q4 qf0 qf1 qf2 qf3 qf4; replace X := Lib.hid (X.out.below hb7); replace F := Lib.hid (block_below F.out hb7); clear hb7; have qa := X.out.r.all; obtain ⟨⟨q0, q1, q2, q3, q4⟩, qf0, qf1, qf2, qf3, qf4⟩ := qa))
            go_meet
            exact ⟨rfl, rfl, rfl, Lib.hid (X.out.setr m2), Lib.hid ((set5_other m2 hne2).trans F.out)⟩)
        case rest =>
          obtain ⟨rfl, rfl, rfl, X2, F2⟩ := hcut
          clear F
          clear q0 q1 q2 q3 q4 qf0 qf1 qf2 qf3 qf4
          clear g0 g1 g2 g3 g4 g5 gf0 gf1 gf2 gf3 gf4 gf5 X
          have X := X2
          have F := F2
          clear X2 F2
          have qa := X.out.r.all; obtain ⟨⟨q0, q1, q2, q3, q4⟩, qf0, qf1, qf2, qf3, qf4⟩ := qa
          obtain ⟨g0, g1, g2, g3, g4, g5⟩ := cells6 (F.out); obtain ⟨gf0, gf1, gf2, gf3, gf4, gf5⟩ := frees6 (F.out)
          go_upto_if 83 with (fail)
          go_cut [10, 11, 13] (fun s10 s11 s13 wx => s10 = .pointer (some ⟨tb, 0, none⟩) ∧ s11 = .int .i64 pl ∧ s13 = .int .i64 (n : Nat) ∧ Hid (Px w wx xb m4) ∧ Hid (wx.heap[tb]? = some (.cells #[.string ⟨id.toArray⟩, .int .i64 (st : Nat), .int .i64 (fm : Nat), .int .i64 0, .string ⟨#[]⟩, .int .i64 pl] 100 (0, 0))))
          case first =>
            rcases h4 with ⟨g2, B1, B2⟩ | ⟨g2, rfl, rfl, rfl⟩
            · go_wp2_with (first | (go_at_call 130; (with_reducible refine (B1.out _).mono ?_); rintro e w7 ⟨rfl, hb7⟩; clear q0 q1 q2 q3 q4 qf0 qf1 qf2 qf3 qf4; clear g0 g1 g2 g3 g4 g5 gf0 gf1 gf2 gf3 gf4 gf5; have X7 := Lib.hid (X.out.below hb7); have F7 := Lib.hid (block_below F.out hb7); clear hb7; have qa := X7.out.r.all; obtain ⟨⟨q0, q1, q2, q3, q4⟩, qf0, qf1, qf2, qf3, qf4⟩ := qa; obtain ⟨g0, g1, g2, g3, g4, g5⟩ := cells6 (F7.out); obtain ⟨gf0, gf1, gf2, gf3, gf4, gf5⟩ := frees6 (F7.out)) | (go_at_call 130; (with_reducible refine (B2.out _).mono ?_); rintro e w8 ⟨rfl, hb8⟩; clear q0 q1 q2 q3 q4 qf0 qf1 qf2 qf3 qf4; clear g0 g1 g2 g3 g4 g5 gf0 gf1 gf2 gf3 gf4 gf5; have X8 := Lib.hid (((X7.out.setr m3).other 1 (.int .i64 (st : Nat)) ht).below hb8); have F8 := Lib.hid (block_below (setCell_at ((set5_other m3 hne2).trans F7.out)) hb8); clear hb8; have qa := X8.out.r.all; obtain ⟨⟨q0, q1, q2, q3, q4⟩, qf0, qf1, qf2, qf3, qf4⟩ := qa; obtain ⟨g0, g1, g2, g3, g4, g5⟩ := cells6 (F8.out); obtain ⟨gf0, gf1, gf2, gf3, gf4, gf5⟩ := frees6 (F8.out)))
              go_meet
              exact ⟨rfl, rfl, rfl, Lib.hid ((X8.out.setr m4).other 2 (.int .i64 (fm : Nat)) ht), Lib.hid (setCell_at ((set5_other m4 hne2).trans F8.out))⟩
            · go_wp2_with fail
              go_meet
              exact ⟨rfl, rfl, rfl, X, F⟩
          case rest =>
            obtain ⟨rfl, rfl, rfl, X2, F2⟩ := hcut
            clear F
            clear q0 q1 q2 q3 q4 qf0 qf1 qf2 qf3 qf4
            clear g0 g1 g2 g3 g4 g5 gf0 gf1 gf2 gf3 gf4 gf5 X
            have X := X2
            have F := F2
            clear X2 F2
            have qa := X.out.r.all; obtain ⟨⟨q0, q1, q2, q3, q4⟩, qf0, qf1, qf2, qf3, qf4⟩ := qa
            obtain ⟨g0, g1, g2, g3, g4, g5⟩ := cells6 (F.out); obtain ⟨gf0, gf1, gf2, gf3, gf4, gf5⟩ := frees6 (F.out)
            go_upto_region 19 with (fail)
            go_cut [10, 11, 13, 106] (fun s10 s11 s13 s106 wx => s10 = .pointer (some ⟨tb, 0, none⟩) ∧ s11 = .int .i64 pl ∧ s13 = .int .i64 (n : Nat) ∧ s106 = .bool ad ∧ Hid (Px w wx xb m4) ∧ Hid (wx.heap[tb]? = some (.cells #[.string ⟨id.toArray⟩, .int .i64 (st : Nat), .int .i64 (fm : Nat), .int .i64 0, .string ⟨#[]⟩, .int .i64 pl] 100 (0, 0))))
            case first =>
              rcases hsp with ⟨t4, rfl⟩ | ⟨t4, rfl, rfl⟩ | ⟨t4, rfl, rfl, BT⟩ | ⟨t4, rfl, rfl, BT⟩
              all_goals (
                go_wp2_with (go_at_call 28; refine (BT.out _).mono ?_; rintro e wx ⟨rfl, rfl⟩)
                go_meet
                exact ⟨rfl, rfl, rfl, rfl, X, F⟩)
            case rest =>
              obtain ⟨rfl, rfl, rfl, rfl, X2, F2⟩ := hcut
              clear F
              clear q0 q1 q2 q3 q4 qf0 qf1 qf2 qf3 qf4
              clear g0 g1 g2 g3 g4 g5 gf0 gf1 gf2 gf3 gf4 gf5 X
              have X := X2
              have F := F2
              clear X2 F2
              have qa := X.out.r.all; obtain ⟨⟨q0, q1, q2, q3, q4⟩, qf0, qf1, qf2, qf3, qf4⟩ := qa
              obtain ⟨g0, g1, g2, g3, g4, g5⟩ := cells6 (F.out); obtain ⟨gf0, gf1, gf2, gf3, gf4, gf5⟩ := frees6 (F.out)
              have wf2 : IntKind.i64.wrap ((fm : Int) + 2) = (fm : Int) + 2 := IntWalk.i64_in _ (by omega)
              go_upto_if 106 with (fail)
              go_cut [10, 11, 13] (fun s10 s11 s13 wx => s10 = .pointer (some ⟨tb, 0, none⟩) ∧ s11 = .int .i64 pl ∧ s13 = .int .i64 (n : Nat) ∧ Hid (Px w wx xb m4) ∧ Hid (wx.heap[tb]? = some (.cells #[.string ⟨id.toArray⟩, .int .i64 (st : Nat), .int .i64 (fm1 : Nat), .int .i64 0, .string ⟨#[]⟩, .int .i64 pl] 100 (0, 0))))
              case first =>
                rcases ad with _ | _
                · go_wp2_with fail
                  go_meet
                  exact ⟨rfl, rfl, rfl, X, by rw [HFM.out]; exact F⟩
                · go_wp2_with fail
                  go_meet
                  refine ⟨rfl, rfl, rfl, Lib.hid (X.out.other 2 (.int .i64 ((fm : Int) + 2)) ht), ?_⟩
                  rw [HFM.out]
                  exact Lib.hid (setCell_at F.out)
              case rest =>
                obtain ⟨rfl, rfl, rfl, X2, F2⟩ := hcut
                clear F
                clear q0 q1 q2 q3 q4 qf0 qf1 qf2 qf3 qf4
                clear g0 g1 g2 g3 g4 g5 gf0 gf1 gf2 gf3 gf4 gf5 X
                have X := X2
                have F := F2
                clear X2 F2
                have qa := X.out.r.all; obtain ⟨⟨q0, q1, q2, q3, q4⟩, qf0, qf1, qf2, qf3, qf4⟩ := qa
                obtain ⟨g0, g1, g2, g3, g4, g5⟩ := cells6 (F.out); obtain ⟨gf0, gf1, gf2, gf3, gf4, gf5⟩ := frees6 (F.out)
                have wp4 : IntKind.i64.wrap (m4.bs + (m4.nx : Int)) = m4.bs + (m4.nx : Int) := IntWalk.i64_in _ (by omega)
                go_upto_region 23 with (go_at_call 68; refine (TK5.out _).mono ?_; rintro e w9 ⟨rfl, hb9⟩; clear q0 q1 q2 q3 q4 qf0 qf1 qf2 qf3 qf4; clear g0 g1 g2 g3 g4 g5 gf0 gf1 gf2 gf3 gf4 gf5; replace X := Lib.hid (X.out.below hb9); replace F := Lib.hid (block_below F.out hb9); clear hb9; have qa := X.out.r.all; obtain ⟨⟨q0, q1, q2, q3, q4⟩, qf0, qf1, qf2, qf3, qf4⟩ := qa; obtain ⟨g0, g1, g2, g3, g4, g5⟩ := cells6 (F.out); obtain ⟨gf0, gf1, gf2, gf3, gf4, gf5⟩ := frees6 (F.out))
                have F2 : Hid (((((((w9.setCell ⟨xb, 0, none⟩ (.string ⟨m5.t.toArray⟩)).setCell ⟨xb, 1, none⟩ (.int .i64 m5.nx)).setCell ⟨xb, 2, none⟩ (.int .i64 m5.bs)).setCell ⟨xb, 3, none⟩ (.int .i64 m5.cd)).setCell ⟨xb, 4, none⟩ (.int .i64 m5.pl)).setCell ⟨tb, 4, none⟩ (.string ⟨data.toArray⟩)).heap[tb]? = some (.cells #[.string ⟨id.toArray⟩, .int .i64 (st : Nat), .int .i64 (fm1 : Nat), .int .i64 0, .string ⟨data.toArray⟩, .int .i64 pl] 100 (0, 0))) := Lib.hid (setCell_at (j := 4) (v := .string ⟨data.toArray⟩) ((set5_other m5 hne2).trans F.out))
                have X2 := Lib.hid ((X.out.setr m5).other 4 (.string ⟨data.toArray⟩) ht)
                generalize (((((w9.setCell ⟨xb, 0, none⟩ (.string ⟨m5.t.toArray⟩)).setCell ⟨xb, 1, none⟩ (.int .i64 m5.nx)).setCell ⟨xb, 2, none⟩ (.int .i64 m5.bs)).setCell ⟨xb, 3, none⟩ (.int .i64 m5.cd)).setCell ⟨xb, 4, none⟩ (.int .i64 m5.pl)).setCell ⟨tb, 4, none⟩ (.string ⟨data.toArray⟩) = wz at *
                clear F
                clear q0 q1 q2 q3 q4 qf0 qf1 qf2 qf3 qf4
                clear g0 g1 g2 g3 g4 g5 gf0 gf1 gf2 gf3 gf4 gf5 X
                have X := X2
                have F := F2
                clear X2 F2
                have qa := X.out.r.all; obtain ⟨⟨q0, q1, q2, q3, q4⟩, qf0, qf1, qf2, qf3, qf4⟩ := qa
                obtain ⟨g0, g1, g2, g3, g4, g5⟩ := cells6 (F.out); obtain ⟨gf0, gf1, gf2, gf3, gf4, gf5⟩ := frees6 (F.out)
                obtain ⟨y0, y1, y2, y3, y4⟩ := cells5 (X.out.z6); obtain ⟨yf0, yf1, yf2, yf3, yf4⟩ := frees5 (X.out.z6)
                obtain ⟨z0, z1, z2, z3, z4, z5⟩ := cells6 (X.out.z7); obtain ⟨zf0, zf1, zf2, zf3, zf4, zf5⟩ := frees6 (X.out.z7)
                have he := hend.out
                clear hend
                rcases he with ⟨hcd, rfl, rfl, rfl⟩ | ⟨hcd, rfl, rfl, hfo, LK⟩ | ⟨hcd, c9, p9, g9, b9, hc9, rfl, rfl, rfl, LK, CT⟩ | ⟨hcd, rfl, rfl, p9, g9, b9, hfo, LK, CT⟩
                · go_wp2
                  obtain ⟨h8, h9, hk⟩ := X.out.fin xo [] [] 0 0 0 0
                  exact end_cct rfl rfl rfl h8 Try.underlying103 rfl info_ref01In rfl h9 Try.underlying100 rfl (by kernel_rfl) ⟨rfl, hk⟩
                · rw [← HPL.out] at hfo
                  have HFO := Lib.hid hfo
                  clear hfo
                  go_upto_region 30 with (go_at_call 131; refine (LK.out _).mono ?_; rintro e wx ⟨rfl, rfl⟩)
                  (have ht1 : tb ≠ xb + 1 := by omega); (have ht2 : xb + 1 ≠ tb := by omega); (have ht3 : tb ≠ xb + 1 + 1 := by omega); (have ht4 : xb + 1 + 1 ≠ tb := by omega); go_region; all_goals (go_wp2; try simp only [Act.put, List.setIfInBounds_toArray, List.set_cons_zero, List.set_cons_succ, List.getElem_toArray, List.getElem_cons_zero, List.getElem_cons_succ])
                  all_goals (obtain ⟨h8, h9, hk⟩ := X.out.fin xo id data (st : Nat) (fm1 : Nat) 0 pl; exact end_cct rfl rfl rfl (rf_block_drew h8) Try.underlying103 rfl info_ref01In rfl (rf_block_drew h9) Try.underlying100 rfl (by kernel_rfl) ⟨by rw [HFO.out]; rfl, hk.drew⟩)
                · have FL := Lib.hid (fun w => rfail_any m5 c9 p9 w)
                  rw [← HPL.out] at CT
                  have hcb : (c9 != 0) = true := by simpa using hc9
                  clear hc9
                  go_upto_region 27 with (first | (go_at_call 131; refine (LK.out _).mono ?_; rintro e wx ⟨rfl, rfl⟩) | (go_at_call 132; refine (CT.out _).mono ?_; rintro e w10 ⟨⟨t9, nx9, bs9, cd9, pl9⟩, rfl, hpl9, rfl, hb10⟩; clear q0 q1 q2 q3 q4 qf0 qf1 qf2 qf3 qf4; clear g0 g1 g2 g3 g4 g5 gf0 gf1 gf2 gf3 gf4 gf5 y0 y1 y2 y3 y4 yf0 yf1 yf2 yf3 yf4 z0 z1 z2 z3 z4 z5 zf0 zf1 zf2 zf3 zf4 zf5; replace X := Lib.hid (X.out.below hb10); replace F := Lib.hid (block_below F.out hb10); clear hb10))
                  have hp := hpl9 (by simpa using hcb)
                  subst hp
                  have BB : Below w10.heap.size w10 ((w10.alloc (.cells #[.string ⟨id.toArray⟩, .int .i64 (st : Nat), .int .i64 (fm1 : Nat), .int .i64 (g9 : Nat), .string ⟨b9.toArray⟩, .int .i64 pl] 100)).alloc (.cells #[.string ⟨t9.toArray⟩, .int .i64 nx9, .int .i64 bs9, .int .i64 cd9, .int .i64 pl9] 103)) := ((Below.refl _ _).alloc (Nat.le_refl _) _).alloc (by simp) _
                  have G9 := Lib.hid (at_a1 w10 #[.string ⟨id.toArray⟩, .int .i64 (st : Nat), .int .i64 (fm1 : Nat), .int .i64 (g9 : Nat), .string ⟨b9.toArray⟩, .int .i64 pl] 100 (.cells #[.string ⟨t9.toArray⟩, .int .i64 nx9, .int .i64 bs9, .int .i64 cd9, .int .i64 pl9] 103))
                  have Q9 := Lib.hid (at_a2 w10 #[.string ⟨t9.toArray⟩, .int .i64 nx9, .int .i64 bs9, .int .i64 cd9, .int .i64 pl9] 103 (.cells #[.string ⟨id.toArray⟩, .int .i64 (st : Nat), .int .i64 (fm1 : Nat), .int .i64 (g9 : Nat), .string ⟨b9.toArray⟩, .int .i64 pl] 100))
                  replace X := Lib.hid (X.out.below BB)
                  have FOLD := F
                  replace F := Lib.hid (block_below F.out BB)
                  have hwt := (Array.getElem?_eq_some_iff.1 G9.out).1
                  clear BB
                  have hgt : tb < w10.heap.size := (Array.getElem?_eq_some_iff.1 FOLD.out).1
                  clear FOLD
                  generalize (w10.alloc (.cells #[.string ⟨id.toArray⟩, .int .i64 (st : Nat), .int .i64 (fm1 : Nat), .int .i64 (g9 : Nat), .string ⟨b9.toArray⟩, .int .i64 pl] 100)).alloc (.cells #[.string ⟨t9.toArray⟩, .int .i64 nx9, .int .i64 bs9, .int .i64 cd9, .int .i64 pl9] 103) = w11 at *
                  generalize w10.heap.size = gb at *
                  have qa := X.out.r.all; obtain ⟨⟨q0, q1, q2, q3, q4⟩, qf0, qf1, qf2, qf3, qf4⟩ := qa
                  obtain ⟨g0, g1, g2, g3, g4, g5⟩ := cells6 (F.out); obtain ⟨gf0, gf1, gf2, gf3, gf4, gf5⟩ := frees6 (F.out)
                  obtain ⟨p0, p1, p2, p3, p4, p5⟩ := cells6 (G9.out)
                  obtain ⟨s0, s1, s2, s3, s4⟩ := cells5 (Q9.out)
                  obtain ⟨y0, y1, y2, y3, y4⟩ := cells5 (X.out.z6); obtain ⟨yf0, yf1, yf2, yf3, yf4⟩ := frees5 (X.out.z6)
                  obtain ⟨z0, z1, z2, z3, z4, z5⟩ := cells6 (X.out.z7); obtain ⟨zf0, zf1, zf2, zf3, zf4, zf5⟩ := frees6 (X.out.z7)
                  go_wp2_with (go_at_call 101; refine (FL.out _).mono ?_; rintro e w12 ⟨rfl, hb12⟩; clear q0 q1 q2 q3 q4 qf0 qf1 qf2 qf3 qf4; clear g0 g1 g2 g3 g4 g5 gf0 gf1 gf2 gf3 gf4 gf5 y0 y1 y2 y3 y4 yf0 yf1 yf2 yf3 yf4 z0 z1 z2 z3 z4 z5 zf0 zf1 zf2 zf3 zf4 zf5 p0 p1 p2 p3 p4 p5 s0 s1 s2 s3 s4; replace X := Lib.hid (X.out.below hb12); clear hb12; have qa := X.out.r.all; obtain ⟨⟨q0, q1, q2, q3, q4⟩, qf0, qf1, qf2, qf3, qf4⟩ := qa; obtain ⟨y0, y1, y2, y3, y4⟩ := cells5 (X.out.z6); obtain ⟨yf0, yf1, yf2, yf3, yf4⟩ := frees5 (X.out.z6); obtain ⟨z0, z1, z2, z3, z4, z5⟩ := cells6 (X.out.z7); obtain ⟨zf0, zf1, zf2, zf3, zf4, zf5⟩ := frees6 (X.out.z7))
                  obtain ⟨h8, h9, hk⟩ := X.out.fin (m5.fail cd9 pl9) [] [] 0 0 0 0
                  exact end_cct rfl rfl rfl h8 Try.underlying103 rfl info_ref01In rfl h9 Try.underlying100 rfl (by kernel_rfl) ⟨rfl, hk⟩
                · rw [← HPL.out] at hfo CT
                  have HFO := Lib.hid hfo
                  clear hfo
                  go_upto_region 27 with (first | (go_at_call 131; refine (LK.out _).mono ?_; rintro e wx ⟨rfl, rfl⟩) | (go_at_call 132; refine (CT.out _).mono ?_; rintro e w10 ⟨⟨t9, nx9, bs9, cd9, pl9⟩, rfl, hpl9, rfl, hb10⟩; clear q0 q1 q2 q3 q4 qf0 qf1 qf2 qf3 qf4; clear g0 g1 g2 g3 g4 g5 gf0 gf1 gf2 gf3 gf4 gf5 y0 y1 y2 y3 y4 yf0 yf1 yf2 yf3 yf4 z0 z1 z2 z3 z4 z5 zf0 zf1 zf2 zf3 zf4 zf5; replace X := Lib.hid (X.out.below hb10); replace F := Lib.hid (block_below F.out hb10); clear hb10))
                  have BB : Below w10.heap.size w10 ((w10.alloc (.cells #[.string ⟨id.toArray⟩, .int .i64 (st : Nat), .int .i64 (fm1 : Nat), .int .i64 (g9 : Nat), .string ⟨b9.toArray⟩, .int .i64 pl] 100)).alloc (.cells #[.string ⟨t9.toArray⟩, .int .i64 nx9, .int .i64 bs9, .int .i64 0, .int .i64 pl9] 103)) := ((Below.refl _ _).alloc (Nat.le_refl _) _).alloc (by simp) _
                  have G9 := Lib.hid (at_a1 w10 #[.string ⟨id.toArray⟩, .int .i64 (st : Nat), .int .i64 (fm1 : Nat), .int .i64 (g9 : Nat), .string ⟨b9.toArray⟩, .int .i64 pl] 100 (.cells #[.string ⟨t9.toArray⟩, .int .i64 nx9, .int .i64 bs9, .int .i64 0, .int .i64 pl9] 103))
                  have Q9 := Lib.hid (at_a2 w10 #[.string ⟨t9.toArray⟩, .int .i64 nx9, .int .i64 bs9, .int .i64 0, .int .i64 pl9] 103 (.cells #[.string ⟨id.toArray⟩, .int .i64 (st : Nat), .int .i64 (fm1 : Nat), .int .i64 (g9 : Nat), .string ⟨b9.toArray⟩, .int .i64 pl] 100))
                  replace X := Lib.hid (X.out.below BB)
                  have FOLD := F
                  replace F := Lib.hid (block_below F.out BB)
                  have hwt := (Array.getElem?_eq_some_iff.1 G9.out).1
                  clear BB
                  have hgt : tb < w10.heap.size := (Array.getElem?_eq_some_iff.1 FOLD.out).1
                  clear FOLD
                  generalize (w10.alloc (.cells #[.string ⟨id.toArray⟩, .int .i64 (st : Nat), .int .i64 (fm1 : Nat), .int .i64 (g9 : Nat), .string ⟨b9.toArray⟩, .int .i64 pl] 100)).alloc (.cells #[.string ⟨t9.toArray⟩, .int .i64 nx9, .int .i64 bs9, .int .i64 0, .int .i64 pl9] 103) = w11 at *
                  generalize w10.heap.size = gb at *
                  have qa := X.out.r.all; obtain ⟨⟨q0, q1, q2, q3, q4⟩, qf0, qf1, qf2, qf3, qf4⟩ := qa
                  obtain ⟨g0, g1, g2, g3, g4, g5⟩ := cells6 (F.out); obtain ⟨gf0, gf1, gf2, gf3, gf4, gf5⟩ := frees6 (F.out)
                  obtain ⟨p0, p1, p2, p3, p4, p5⟩ := cells6 (G9.out)
                  obtain ⟨s0, s1, s2, s3, s4⟩ := cells5 (Q9.out)
                  obtain ⟨y0, y1, y2, y3, y4⟩ := cells5 (X.out.z6); obtain ⟨yf0, yf1, yf2, yf3, yf4⟩ := frees5 (X.out.z6)
                  obtain ⟨z0, z1, z2, z3, z4, z5⟩ := cells6 (X.out.z7); obtain ⟨zf0, zf1, zf2, zf3, zf4, zf5⟩ := frees6 (X.out.z7)
                  go_upto_region 30 with (fail)
                  clear q0 q1 q2 q3 q4 qf0 qf1 qf2 qf3 qf4
                  clear g0 g1 g2 g3 g4 g5 gf0 gf1 gf2 gf3 gf4 gf5 y0 y1 y2 y3 y4 yf0 yf1 yf2 yf3 yf4 z0 z1 z2 z3 z4 z5 zf0 zf1 zf2 zf3 zf4 zf5 p0 p1 p2 p3 p4 p5 s0 s1 s2 s3 s4
                  have F2 := Lib.hid (store6 (v0 := .string ⟨id.toArray⟩) (v1 := .int .i64 (st : Nat)) (v2 := .int .i64 (fm1 : Nat)) (v3 := .int .i64 (g9 : Nat)) (v4 := .string ⟨b9.toArray⟩) (v5 := .int .i64 pl) F.out rfl)
                  replace X := Lib.hid ((((((X.out.other 0 (.string ⟨id.toArray⟩) ht).other 1 (.int .i64 (st : Nat)) ht).other 2 (.int .i64 (fm1 : Nat)) ht).other 3 (.int .i64 (g9 : Nat)) ht).other 4 (.string ⟨b9.toArray⟩) ht).other 5 (.int .i64 pl) ht)
                  clear F
                  have F := F2
                  clear F2
                  generalize (((((w11.setCell ⟨tb, 0, none⟩ (.string ⟨id.toArray⟩)).setCell ⟨tb, 1, none⟩ (.int .i64 (st : Nat))).setCell ⟨tb, 2, none⟩ (.int .i64 (fm1 : Nat))).setCell ⟨tb, 3, none⟩ (.int .i64 (g9 : Nat))).setCell ⟨tb, 4, none⟩ (.string ⟨b9.toArray⟩)).setCell ⟨tb, 5, none⟩ (.int .i64 pl) = wy at *
                  have qa := X.out.r.all; obtain ⟨⟨q0, q1, q2, q3, q4⟩, qf0, qf1, qf2, qf3, qf4⟩ := qa
                  obtain ⟨g0, g1, g2, g3, g4, g5⟩ := cells6 (F.out); obtain ⟨gf0, gf1, gf2, gf3, gf4, gf5⟩ := frees6 (F.out)
                  obtain ⟨y0, y1, y2, y3, y4⟩ := cells5 (X.out.z6); obtain ⟨yf0, yf1, yf2, yf3, yf4⟩ := frees5 (X.out.z6)
                  obtain ⟨z0, z1, z2, z3, z4, z5⟩ := cells6 (X.out.z7); obtain ⟨zf0, zf1, zf2, zf3, zf4, zf5⟩ := frees6 (X.out.z7)
                  (have ht1 : tb ≠ xb + 1 := by omega); (have ht2 : xb + 1 ≠ tb := by omega); (have ht3 : tb ≠ xb + 1 + 1 := by omega); (have ht4 : xb + 1 + 1 ≠ tb := by omega); go_region; all_goals (go_wp2; try simp only [Act.put, List.setIfInBounds_toArray, List.set_cons_zero, List.set_cons_succ, List.getElem_toArray, List.getElem_cons_zero, List.getElem_cons_succ])
                  all_goals (obtain ⟨h8, h9, hk⟩ := X.out.fin xo id b9 (st : Nat) (fm1 : Nat) (g9 : Nat) pl; exact end_cct rfl rfl rfl (rf_block_drew h8) Try.underlying103 rfl info_ref01In rfl (rf_block_drew h9) Try.underlying100 rfl (by kernel_rfl) ⟨by rw [HFO.out]; rfl, hk.drew⟩)
end Go.Proofs.Ytmnmonmbdgedbaa

namespace Go.Proofs.Ytmnmonmbdgedbaa
open Go.RowKit
set_option linter.unusedVariables false
set_option linter.unusedSimpArgs false

/-- two readers alike: the same fault, and the same reader, if there is none -/
def Like (m x : Rd) : Prop := x.cd = m.cd ∧ x.pl = m.pl ∧ (m.cd = 0 → x = m)
theorem Like.refl (m : Rd) : Like m m := ⟨rfl, rfl, fun _ => rfl⟩
def RPars (r : Rd × Fr × Bool) (w : World) (e : Ending) (w' : World) : Prop := ∃ x, Like r.1 x ∧ e = .returned (.tuple #[rdV x, rfV r.2.1, .bool r.2.2]) ∧ Below w.heap.size w w'
theorem two_take (m : Rd) (hm : m.nx ≤ m.t.length) :
    ((m.take ((2 : Nat) : Int)).1.cd = 0 → ((m.take ((1 : Nat) : Int)).1.take ((1 : Nat) : Int)).1 = (m.take ((2 : Nat) : Int)).1 ∧ numL (m.take ((1 : Nat) : Int)).2 = numL (m.take ((2 : Nat) : Int)).2 / 256 ∧ numL ((m.take ((1 : Nat) : Int)).1.take ((1 : Nat) : Int)).2 = numL (m.take ((2 : Nat) : Int)).2 % 256) ∧
    ((m.take ((2 : Nat) : Int)).1.cd ≠ 0 → ((m.take ((1 : Nat) : Int)).1.take ((1 : Nat) : Int)).1.cd = (m.take ((2 : Nat) : Int)).1.cd ∧ ((m.take ((1 : Nat) : Int)).1.take ((1 : Nat) : Int)).1.pl = (m.take ((2 : Nat) : Int)).1.pl) := by
  by_cases hc : m.cd = 0
  · by_cases h2 : m.nx + 2 ≤ m.t.length
    · have e1 := take_all m 1 hc (by omega)
      have e2 := take_all m 2 hc h2
      have e3 := take_all { m with nx := m.nx + 1 } 1 hc (by show m.nx + 1 + 1 ≤ m.t.length; omega)
      rw [e1, e2]
      refine ⟨fun _ => ?_, fun h => absurd hc h⟩
      show (({ m with nx := m.nx + 1 } : Rd).take ((1 : Nat) : Int)).1 = _ ∧ _ ∧ numL (({ m with nx := m.nx + 1 } : Rd).take ((1 : Nat) : Int)).2 = _
      rw [e3]
      have d1 := drop_cons m.t m.nx (by omega)
      have d2 := drop_cons m.t (m.nx + 1) (by omega)
      have c1 := UInt8.toNat_lt m.t[m.nx]
      have c2 := UInt8.toNat_lt m.t[m.nx + 1]
      refine ⟨rfl, ?_, ?_⟩
      · show numL ((m.t.drop m.nx).take 1) = numL ((m.t.drop m.nx).take 2) / 256
        rw [d1, d2]
        simp only [numL, List.take_succ_cons, List.take_zero, List.foldl_cons, List.foldl_nil]
        omega
      · show numL ((m.t.drop (m.nx + 1)).take 1) = numL ((m.t.drop m.nx).take 2) % 256
        rw [d1, d2]
        simp only [numL, List.take_succ_cons, List.take_zero, List.foldl_cons, List.foldl_nil]
        omega
    · have e2 : m.take ((2 : Nat) : Int) = (m.short, []) := by unfold Rd.take; rw [if_pos hc, if_pos (by omega)]
      have s1 : m.short = { m with cd := 1, pl := m.bs + m.t.length } := Rd.fail_yes _ _ _ hc (by decide)
      rw [e2]
      by_cases h1 : m.nx + 1 ≤ m.t.length
      · rw [take_all m 1 hc h1]
        have e3 : ({ m with nx := m.nx + 1 } : Rd).take ((1 : Nat) : Int) = (({ m with nx := m.nx + 1 } : Rd).short, []) := by unfold Rd.take; rw [if_pos hc, if_pos (by show _ ∨ (m.t.length : Int) - ((m.nx + 1 : Nat) : Int) < _; omega)]
        have s2 : ({ m with nx := m.nx + 1 } : Rd).short = { m with nx := m.nx + 1, cd := 1, pl := m.bs + m.t.length } := Rd.fail_yes _ _ _ hc (by decide)
        show (_ → (({ m with nx := m.nx + 1 } : Rd).take ((1 : Nat) : Int)).1 = _ ∧ _) ∧ (_ → (({ m with nx := m.nx + 1 } : Rd).take ((1 : Nat) : Int)).1.cd = _ ∧ (({ m with nx := m.nx + 1 } : Rd).take ((1 : Nat) : Int)).1.pl = _)
        rw [e3]
        show (m.short.cd = 0 → _) ∧ (_ → ({ m with nx := m.nx + 1 } : Rd).short.cd = m.short.cd ∧ ({ m with nx := m.nx + 1 } : Rd).short.pl = m.short.pl)
        rw [s1, s2]
        exact ⟨fun h => absurd (show (1 : Int) = 0 from h) (by decide), fun _ => ⟨rfl, rfl⟩⟩
      · have e1 : m.take ((1 : Nat) : Int) = (m.short, []) := by unfold Rd.take; rw [if_pos hc, if_pos (by omega)]
        rw [e1]
        have hd : m.short.cd ≠ 0 := by rw [s1]; show (1 : Int) ≠ 0; decide
        have e3 := take_dead hd ((1 : Nat) : Int)
        refine ⟨fun h => absurd h hd, fun _ => ?_⟩
        show (m.short.take ((1 : Nat) : Int)).1.cd = _ ∧ (m.short.take ((1 : Nat) : Int)).1.pl = _
        rw [e3]
        exact ⟨rfl, rfl⟩
  · rw [take_dead hc, take_dead hc]
    refine ⟨fun h => absurd h hc, fun _ => ?_⟩
    show (m.take ((1 : Nat) : Int)).1.cd = _ ∧ (m.take ((1 : Nat) : Int)).1.pl = _
    rw [take_dead hc]
    exact ⟨rfl, rfl⟩
theorem add_two : ∀ n : Nat, n < 256 → (n ||| 2) = if n / 2 % 2 = 1 then n else n + 2 := by decide +kernel
theorem or_add (c : UInt8) : (c ||| 2).toNat = if bt c 2 = true then c.toNat else c.toNat + 2 := by
  rw [UInt8.toNat_or, show (2 : UInt8).toNat = 2 from rfl, add_two c.toNat (UInt8.toNat_lt c)]
  unfold bt
  by_cases h : c.toNat / 2 % 2 = 1
  · rw [if_pos h, if_pos (by rw [h]; rfl)]
  · rw [if_neg h, if_neg (by intro e; exact h (by have := eq_of_beq e; omega))]
theorem peek_one (m : Rd) (hm : m.nx ≤ m.t.length) : (m.peek 1 = [] ∧ (m.cd ≠ 0 ∨ m.left = 0)) ∨ (∃ c, m.peek 1 = [c] ∧ m.cd = 0 ∧ m.left ≠ 0) := by
  unfold Rd.peek Rd.left
  by_cases hc : m.cd = 0
  · rw [if_pos hc, if_pos hc]
    by_cases hl : m.nx < m.t.length
    · right
      refine ⟨m.t[m.nx], ?_, hc, by omega⟩
      rw [drop_cons m.t m.nx hl]
      rfl
    · left
      refine ⟨?_, .inr (by omega)⟩
      rw [List.drop_eq_nil_of_le (by omega)]
      rfl
  · rw [if_neg hc]
    exact .inl ⟨rfl, .inl hc⟩
theorem letters_v {v : Int} (h : letters v ≠ 0) : v = 2 ∨ v = 3 ∨ v = 4 := by
  unfold letters at h
  by_cases h2 : v = 2
  · exact .inl h2
  · by_cases h3 : v = 3
    · exact .inr (.inl h3)
    · by_cases h4 : v = 4
      · exact .inr (.inr h4)
      · rw [if_neg h2, if_neg h3, if_neg h4] at h; exact absurd rfl h
theorem wrong_all {id : List UInt8} (h : ¬ wrongN id < id.length) : ∀ y ∈ id, badC y = false := named_good (by have := wrong_le id; omega)
theorem numL_one_le (m : Rd) : numL (m.take ((1 : Nat) : Int)).2 ≤ 255 := rf_one_le m
def m2Of (v : Int) (m : Rd) : Rd := if wrongN (m.take ((letters v : Nat) : Int)).2 < (m.take ((letters v : Nat) : Int)).2.length then (m.take ((letters v : Nat) : Int)).1.fail 1 (m.bs + m.nx + (wrongN (m.take ((letters v : Nat) : Int)).2 : Nat)) else (m.take ((letters v : Nat) : Int)).1
def a4Of (v : Int) (r : Rd) : Rd × List UInt8 := if v = 2 then (r, []) else r.take ((2 : Nat) : Int)
theorem frMain_at (v : Int) (sp : Bool) (m : Rd) : frMain v sp m = ⟨m2Of v m, ((a4Of v (sizeM v (m2Of v m)).1).1.take (((sizeM v (m2Of v m)).2 : Nat) : Int)).1, (m.take ((letters v : Nat) : Int)).2,
    UInt8.ofNat (numL (a4Of v (sizeM v (m2Of v m)).1).2 / 256), if v = 4 ∧ sp = true then UInt8.ofNat (numL (a4Of v (sizeM v (m2Of v m)).1).2 % 256) ||| 2 else UInt8.ofNat (numL (a4Of v (sizeM v (m2Of v m)).1).2 % 256),
    (a4Of v (sizeM v (m2Of v m)).1).1.bs + (a4Of v (sizeM v (m2Of v m)).1).1.nx, ((a4Of v (sizeM v (m2Of v m)).1).1.take (((sizeM v (m2Of v m)).2 : Nat) : Int)).2⟩ := rfl
theorem rparse13_any (v : Int) (sp : Bool) (m : Rd) (w : World) (hm : m.Ok) (hl : m.t.length ≤ 1000000) (hb : m.bs ≤ 1000000000000) :
    Calls Try.prog 105 #[.int .i64 v, rdV m, .bool sp] w (RPars (frParse v sp m) w) := by
  have PK := Lib.hid (fun w => rpeek_any m 1 w hm)
  have LT := Lib.hid (fun w => rletters_any v w)
  have hm0 := hm.1
  have hbs := hm.2.2.1
  unfold frParse
  by_cases hn : letters v = 0 ∨ m.cd ≠ 0 ∨ m.left = 0 ∨ m.peek 1 = [0]
  · rw [if_pos hn]
    refine (rparse_none v sp m (m.peek 1) (letters v) w PK LT ?_).mono ?_
    · rcases peek_one m hm0 with ⟨h, _⟩ | ⟨c, h, hc, hl⟩
      · exact .inl h
      · rcases hn with h1 | h1 | h1 | h1
        · by_cases hc0 : c = 0
          · exact .inr (.inl (by rw [h, hc0]))
          · refine .inr (.inr ⟨c, h, ?_, by rw [h1]; rfl⟩)
            have : c.toNat ≠ 0 := fun e => hc0 ((u8_eq c 0).2 e)
            simpa using this
        · exact absurd hc h1
        · exact absurd h1 hl
        · exact .inr (.inl h1)
    · rintro e w' ⟨rfl, hbl⟩
      exact ⟨m, Like.refl m, rfl, hbl⟩
  · rw [if_neg hn]
    have hlt : letters v ≠ 0 := fun e => hn (.inl e)
    have hv := letters_v hlt
    obtain ⟨c, hp, hc, hlf⟩ : ∃ c, m.peek 1 = [c] ∧ m.cd = 0 ∧ m.left ≠ 0 := by
      rcases peek_one m hm0 with ⟨_, h⟩ | h
      · exact absurd (h.elim (fun x => .inr (.inl x)) (fun x => .inr (.inr (.inl x)))) hn
      · exact h
    have hc0 : ((c.toNat : Int) == 0) = false := by
      have : c.toNat ≠ 0 := fun e => hn (.inr (.inr (.inr (by rw [hp, (u8_eq c 0).2 e]))))
      simpa using this
    have hk0 : (((letters v : Nat) : Int) == 0) = false := by simpa using hlt
    rw [hp] at PK
    have hid : (m.take ((letters v : Nat) : Int)).2.length ≤ 4 := by
      have h1 := take_len m ((letters v : Nat) : Int)
      have h2 := letters_le v
      omega
    have TK := Lib.hid (fun w => rtake_any m ((letters v : Nat) : Int) w hm)
    have ok1 : (m.take ((letters v : Nat) : Int)).1.Ok := take_ok _ hm
    have bs1 := take_bs m ((letters v : Nat) : Int)
    have t1 := take_t m ((letters v : Nat) : Int)
    have hnx := hm.2.1
    rw [frMain_at]
    obtain ⟨M2, hM2⟩ : ∃ M2, M2 = m2Of v m := ⟨_, rfl⟩
    rw [← hM2]
    unfold m2Of at hM2
    generalize hm1 : (m.take ((letters v : Nat) : Int)).1 = m1 at *
    generalize hidd : (m.take ((letters v : Nat) : Int)).2 = id at *
    by_cases hw : wrongN id < id.length
    · rw [if_pos hw] at hM2
      rw [hM2]
      clear hM2
      have hc1 : m1.cd = 0 := by
        rw [← hm1]
        refine Classical.byContradiction fun h => ?_
        have hne : (m.take ((letters v : Nat) : Int)).2 ≠ [] := by rw [hidd]; intro e; rw [e] at hw; exact absurd hw (by simp)
        apply hne
        unfold Rd.take at h ⊢
        rw [if_pos hc] at h ⊢
        split
        · rfl
        · rename_i h2
          rw [if_neg h2] at h
          exact absurd hc h
      have ef := Rd.fail_yes m1 1 (m.bs + (m.nx : Int) + (wrongN id : Nat)) hc1 (by decide)
      have hd : (m1.fail 1 (m.bs + (m.nx : Int) + (wrongN id : Nat))).cd ≠ 0 := by rw [ef]; show (1 : Int) ≠ 0; decide
      refine (rparse_wrong v sp m m1 id c (letters v) w hbs (by omega) (by omega) hc0 hk0 hid hw PK LT TK).mono ?_
      rintro e w' ⟨rfl, hbl⟩
      generalize m1.fail 1 (m.bs + (m.nx : Int) + (wrongN id : Nat)) = m2 at *
      have e4 : a4Of v (sizeM v m2).1 = (m2, []) := by
        unfold a4Of
        rw [sizeM_dead v hd]
        split
        · rfl
        · exact take_dead hd _
      have e5 : (m2.take (((sizeM v m2).2 : Nat) : Int)) = (m2, []) := take_dead hd _
      rw [e4]
      unfold frEnd
      dsimp only
      rw [e5]
      dsimp only
      rw [if_pos hd]
      exact ⟨m2, Like.refl _, rfl, hbl⟩
    · rw [if_neg hw] at hM2
      rw [hM2]
      clear hM2
      have hgood := wrong_all hw
      have ok2 : (sizeM v m1).1.Ok := sizeM_ok v ok1
      have bs2 : (sizeM v m1).1.bs = m.bs := by rw [sizeM_bs, bs1]
      have hz : ((v == 4) = true ∧ Hid (∀ w, Calls Try.prog 102 #[rdV m1] w fun e w' => e = .returned (.tuple #[rdV (sizeM v m1).1, .int .i64 ((sizeM v m1).2 : Nat)]) ∧ Below w.heap.size w w')) ∨ ((v == 4) = false ∧ Hid (∀ w, Calls Try.prog 130 #[rdV m1, .int .i64 (v + 1)] w fun e w' => e = .returned (.tuple #[rdV (sizeM v m1).1, .int .i64 ((sizeM v m1).2 : Nat)]) ∧ Below w.heap.size w w')) := by
        rcases hv with rfl | rfl | rfl
        · exact .inr ⟨rfl, Lib.hid fun w => rbig13_any m1 3 w ok1 (by decide)⟩
        · exact .inr ⟨rfl, Lib.hid fun w => rbig13_any m1 4 w ok1 (by decide)⟩
        · refine .inl ⟨rfl, Lib.hid fun w => ?_⟩
          have h := rreadsafe_any m1 w ok1
          rw [← Int.toNat_of_nonneg (safe_nonneg m1)] at h
          exact h
      have t2 : (sizeM v m1).1.t = m.t := by
        rw [← t1]
        unfold sizeM
        split
        · exact take_t _ _
        · split
          · exact take_t _ _
          · unfold Rd.safe
            split
            · rw [Rd.fail_t, take_t]
            · rw [take_t]
      generalize (sizeM v m1).1 = m2 at *
      generalize (sizeM v m1).2 = n at *
      obtain ⟨m3, m4, st, fm, h4, hst, hfm, ok4, bs4, t4, hA, hB⟩ : ∃ (m3 m4 : Rd) (st fm : Nat),
          (((2 : Int) < v ∧ Hid (∀ w, Calls Try.prog 130 #[rdV m2, .int .i64 1] w fun e w' => e = .returned (.tuple #[rdV m3, .int .i64 (st : Nat)]) ∧ Below w.heap.size w w') ∧ Hid (∀ w, Calls Try.prog 130 #[rdV m3, .int .i64 1] w fun e w' => e = .returned (.tuple #[rdV m4, .int .i64 (fm : Nat)]) ∧ Below w.heap.size w w')) ∨ (¬ (2 : Int) < v ∧ m4 = m2 ∧ st = 0 ∧ fm = 0)) ∧
          st ≤ 255 ∧ fm ≤ 255 ∧ m4.Ok ∧ m4.bs = m.bs ∧ m4.t = m.t ∧
          ((a4Of v m2).1.cd = 0 → m4 = (a4Of v m2).1 ∧ st = numL (a4Of v m2).2 / 256 ∧ fm = numL (a4Of v m2).2 % 256) ∧
          ((a4Of v m2).1.cd ≠ 0 → m4.cd = (a4Of v m2).1.cd ∧ m4.pl = (a4Of v m2).1.pl) := by
        by_cases h2 : v = 2
        · subst h2
          rw [show a4Of 2 m2 = (m2, []) from if_pos rfl]
          exact ⟨m2, m2, 0, 0, .inr ⟨by decide, rfl, rfl, rfl⟩, by decide, by decide, ok2, bs2, t2, fun _ => ⟨rfl, by show 0 = numL [] / 256; decide, by show 0 = numL [] % 256; decide⟩, fun _ => ⟨rfl, rfl⟩⟩
        · have hT := two_take m2 ok2.1
          have ok3 : (m2.take ((1 : Nat) : Int)).1.Ok := take_ok _ ok2
          rw [show a4Of v m2 = m2.take ((2 : Nat) : Int) from if_neg h2]
          refine ⟨_, _, _, _, .inl ⟨by omega, Lib.hid fun w => rbig13_any m2 1 w ok2 (by decide), Lib.hid fun w => rbig13_any (m2.take ((1 : Nat) : Int)).1 1 w ok3 (by decide)⟩, rf_one_le _, rf_one_le _, take_ok _ ok3, ?_, ?_, hT.1, hT.2⟩
          · rw [take_bs, take_bs]; exact bs2
          · rw [take_t, take_t]; exact t2
      generalize a4Of v m2 = a4 at *
      -- the format
      obtain ⟨ad, fmB, hfB, hfm1, hsp⟩ : ∃ (ad : Bool) (fmB : UInt8), fmB = (if v = 4 ∧ sp = true then UInt8.ofNat fm ||| 2 else UInt8.ofNat fm) ∧ fmB.toNat = (if ad = true then fm + 2 else fm) ∧
          (((v == 4) = false ∧ ad = false) ∨ ((v == 4) = true ∧ sp = false ∧ ad = false) ∨ ((v == 4) = true ∧ sp = true ∧ ad = false ∧ Hid (∀ w, Calls Try.prog 28 #[.int .i64 (fm : Nat), .int .i64 2] w fun e w' => e = .returned (.bool true) ∧ w = w')) ∨ ((v == 4) = true ∧ sp = true ∧ ad = true ∧ Hid (∀ w, Calls Try.prog 28 #[.int .i64 (fm : Nat), .int .i64 2] w fun e w' => e = .returned (.bool false) ∧ w = w'))) := by
        have ef : (UInt8.ofNat fm).toNat = fm := by rw [UInt8.toNat_ofNat']; omega
        by_cases h4' : v = 4
        · have g4 : (v == 4) = true := by simpa using h4'
          by_cases hs : sp = true
          · have hor := or_add (UInt8.ofNat fm)
            have BT : Hid (∀ w, Calls Try.prog 28 #[.int .i64 (fm : Nat), .int .i64 2] w fun e w' => e = .returned (.bool (bt (UInt8.ofNat fm) 2)) ∧ w = w') := Lib.hid fun w => by
              have h := bit_any (UInt8.ofNat fm) 2 w (by decide) (by decide)
              rw [ef] at h
              exact h
            rw [ef] at hor
            cases hbt : bt (UInt8.ofNat fm) 2 with
            | true =>
              rw [hbt] at hor BT
              exact ⟨false, _, rfl, by rw [if_pos ⟨h4', hs⟩]; exact hor, .inr (.inr (.inl ⟨g4, hs, rfl, BT⟩))⟩
            | false =>
              rw [hbt] at hor BT
              exact ⟨true, _, rfl, by rw [if_pos ⟨h4', hs⟩]; exact hor, .inr (.inr (.inr ⟨g4, hs, rfl, BT⟩))⟩
          · exact ⟨false, _, rfl, by rw [if_neg (fun h => hs h.2)]; exact ef, .inr (.inl ⟨g4, by simpa using hs, rfl⟩)⟩
        · have g4 : (v == 4) = false := by simpa using h4'
          exact ⟨false, _, rfl, by rw [if_neg (fun h => h4' h.1)]; exact ef, .inl ⟨g4, rfl⟩⟩
      have TK5 := Lib.hid (fun w => rtake_any m4 ((n : Nat) : Int) w ok4)
      have hdl : (m4.take ((n : Nat) : Int)).2.length ≤ 1000000 := by
        unfold Rd.take
        split
        · split
          · exact Nat.zero_le _
          · show ((m4.t.drop m4.nx).take _).length ≤ _
            rw [List.length_take, List.length_drop, t4]
            omega
        · exact Nat.zero_le _
      have main := fun (xo : Rd) (fo : Fr) (oo : Bool) hend => rparse_main (v := v) (sp := sp) (m := m) (m1 := m1) (m2 := m2) (m3 := m3) (m4 := m4) (m5 := (m4.take ((n : Nat) : Int)).1) (xo := xo) (fo := fo) (oo := oo) (n := n) (st := st) (fm := fm) (fm1 := fmB.toNat) (ad := ad) (data := (m4.take ((n : Nat) : Int)).2) (id := id) (c := c) (k := letters v) (w := w) hbs (by omega) (by omega) hc0 hk0 hid PK LT TK hgood hv hz h4 hfm hsp hfm1 (by omega) (by omega) (by have := ok4.1; rw [t4] at this; omega) TK5 hend
      by_cases h5 : (m4.take ((n : Nat) : Int)).1.cd = 0
      · have c4 : m4.cd = 0 := Classical.byContradiction fun h => by rw [take_dead h] at h5; exact h h5
        have ca : a4.1.cd = 0 := Classical.byContradiction fun h => h ((hB h).1.symm.trans c4)
        obtain ⟨em, es, ef⟩ := hA ca
        have h5b : ((m4.take ((n : Nat) : Int)).1.cd != 0) = false := by rw [h5]; rfl
        have est : (UInt8.ofNat (numL a4.2 / 256)).toNat = st := by
          rw [← es, UInt8.toNat_ofNat']
          omega
        have hat : m4.bs + (m4.nx : Int) ≤ 2000000000000 := by have := ok4.1; rw [t4] at this; omega
        have hat0 : 0 ≤ m4.bs + (m4.nx : Int) := by omega
        unfold frEnd
        dsimp only
        rw [← em, ← ef, ← hfB]
        rw [if_neg (by rw [h5]; exact fun h => h rfl)]
        by_cases hk : locked v fmB = true
        · have eC : fillC v fmB (m4.take ((n : Nat) : Int)).2 (m4.bs + (m4.nx : Int)) = (0, 0) := by unfold fillC; rw [if_pos hk]
          have eB : fillB v fmB (m4.take ((n : Nat) : Int)).2 (m4.bs + (m4.nx : Int)) = (0, (m4.take ((n : Nat) : Int)).2) := by unfold fillB; rw [if_pos hk]
          rw [eC, eB, if_neg (fun h => h rfl)]
          refine (main _ ⟨id, UInt8.ofNat (numL a4.2 / 256), fmB, 0, (m4.take ((n : Nat) : Int)).2, m.bs + (m.nx : Int)⟩ true (Lib.hid (.inr (.inl ⟨h5b, rfl, rfl, ?_, Lib.hid fun w => by rw [← hk]; exact rlocked_any v fmB w⟩)))).mono ?_
          · unfold rfV
            simp only [est]
            rfl
          · rintro e w' ⟨rfl, hbl⟩
            exact ⟨_, Like.refl _, rfl, hbl⟩
        · have hk' : locked v fmB = false := by simpa using hk
          have LK : Hid (∀ w, Calls Try.prog 131 #[.int .i64 v, .int .i64 fmB.toNat] w fun e w' => e = .returned (.bool false) ∧ w = w') := Lib.hid fun w => by rw [← hk']; exact rlocked_any v fmB w
          have CT := Lib.hid (fun w => rcontent_any v id (st : Nat) fmB (m4.take ((n : Nat) : Int)).2 (m.bs + (m.nx : Int)) (m4.take ((n : Nat) : Int)).2 (m4.bs + (m4.nx : Int)) w hdl hat0 hat hk')
          by_cases hf : (fillC v fmB (m4.take ((n : Nat) : Int)).2 (m4.bs + (m4.nx : Int))).1 = 0
          · rw [if_neg (fun h => h hf)]
            refine (main _ ⟨id, UInt8.ofNat (numL a4.2 / 256), fmB, (fillB v fmB (m4.take ((n : Nat) : Int)).2 (m4.bs + (m4.nx : Int))).1, (fillB v fmB (m4.take ((n : Nat) : Int)).2 (m4.bs + (m4.nx : Int))).2, m.bs + (m.nx : Int)⟩ true (Lib.hid (.inr (.inr (.inr ⟨h5b, rfl, rfl, (fillC v fmB (m4.take ((n : Nat) : Int)).2 (m4.bs + (m4.nx : Int))).2, (fillB v fmB (m4.take ((n : Nat) : Int)).2 (m4.bs + (m4.nx : Int))).1.toNat, (fillB v fmB (m4.take ((n : Nat) : Int)).2 (m4.bs + (m4.nx : Int))).2, ?_, LK, ?_⟩))))).mono ?_
            · unfold rfV
              simp only [est]
            · rw [show ((0 : Int), (fillC v fmB (m4.take ((n : Nat) : Int)).2 (m4.bs + (m4.nx : Int))).2) = fillC v fmB (m4.take ((n : Nat) : Int)).2 (m4.bs + (m4.nx : Int)) by rw [← hf]]
              exact CT
            · rintro e w' ⟨rfl, hbl⟩
              exact ⟨_, Like.refl _, rfl, hbl⟩
          · rw [if_pos hf]
            refine (main _ zeroF false (Lib.hid (.inr (.inr (.inl ⟨h5b, (fillC v fmB (m4.take ((n : Nat) : Int)).2 (m4.bs + (m4.nx : Int))).1, (fillC v fmB (m4.take ((n : Nat) : Int)).2 (m4.bs + (m4.nx : Int))).2, _, _, hf, rfl, rfl, rfl, LK, CT⟩))))).mono ?_
            rintro e w' ⟨rfl, hbl⟩
            exact ⟨_, Like.refl _, rfl, hbl⟩
      · have h5b : ((m4.take ((n : Nat) : Int)).1.cd != 0) = true := by simpa using h5
        refine (main _ zeroF false (Lib.hid (.inl ⟨h5b, rfl, rfl, rfl⟩))).mono ?_
        rintro e w' ⟨rfl, hbl⟩
        have hlike : Like (a4.1.take ((n : Nat) : Int)).1 (m4.take ((n : Nat) : Int)).1 ∧ (a4.1.take ((n : Nat) : Int)).1.cd ≠ 0 := by
          by_cases ca : a4.1.cd = 0
          · rw [← (hA ca).1]; exact ⟨Like.refl _, h5⟩
          · have cm : m4.cd ≠ 0 := fun h => ca ((hB ca).1.symm.trans h)
            rw [take_dead ca, take_dead cm]
            exact ⟨⟨(hB ca).1, (hB ca).2, fun h => absurd h ca⟩, ca⟩
        unfold frEnd
        dsimp only
        rw [if_pos hlike.2]
        exact ⟨_, hlike.1, rfl, hbl⟩
end Go.Proofs.Ytmnmonmbdgedbaa
