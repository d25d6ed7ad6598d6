/- Layer 12 (tail): Check, ahead, walked. -/
import Derived.Test.YtlgkbkbghheokaaTail1
import Derived.Deep.DeepCutAuto
namespace Go.Proofs.Ytlgkbkbghheokaa
open Go.RowKit
set_option linter.unusedVariables false

theorem room_cell {w : World} {b : Nat} {T : TypeId} {tr : UInt8} (h : w.heap[b]? = some (.cells #[.int .i64 30, .int .i64 30, .int .i64 30, .int .i64 4, .int .i64 (last4 tr : Nat)] T (0, 0))) (j : Nat) (hj : j < 5) :
    w.cell? ⟨b, j, none⟩ = some (.int .i64 (((rooms tr)[j]'hj : Nat) : Int)) := by
  have h1 := cell_at (j := j) h
  rw [h1]
  rcases (by omega : j = 0 ∨ j = 1 ∨ j = 2 ∨ j = 3 ∨ j = 4) with h | h | h | h | h <;> subst h <;> rfl
theorem pairs_drop (t : Tl) (j : Nat) (hj : j < 5) : (pairs t).drop j = ((texts t)[j]'hj, (rooms t.tr)[j]'hj) :: (pairs t).drop (j + 1) := by
  rcases (by omega : j = 0 ∨ j = 1 ∨ j = 2 ∨ j = 3 ∨ j = 4) with h | h | h | h | h <;> subst h <;> rfl
theorem rooms_le (tr : UInt8) (j : Nat) (hj : j < 5) : (rooms tr)[j]'hj ≤ 30 := by
  have : last4 tr ≤ 30 := by unfold last4; split <;> omega
  rcases (by omega : j = 0 ∨ j = 1 ∨ j = 2 ∨ j = 3 ∨ j = 4) with h | h | h | h | h <;> subst h <;> simp [rooms] <;> omega
theorem index_any (s : List UInt8) (w : World) : Calls Try.prog 51 #[.string ⟨s.toArray⟩, .int .u8 0] w fun e w' => e = .returned (.int .i64 (Lib.indexByte s 0)) ∧ w = w' :=
  (Try.strings_IndexByte ⟨s.toArray⟩ 0 w).mono fun e w' ⟨h1, h2⟩ => ⟨h1, h2.symm⟩

theorem ahead_any (s : List UInt8) (w : World) (hl : s.length ≤ 1000000000) : Calls Try.prog 54 #[.string ⟨s.toArray⟩] w fun e w' => e = .returned (.string ⟨(cut0 s).toArray⟩) ∧ w = w' := by
  have IX := Lib.hid (fun w => index_any s w)
  rcases hc : s.contains 0 with _ | _
  · obtain ⟨h1, h2⟩ := idx_no hc
    rw [h1] at IX
    rw [h2]
    clear hc h1 h2
    go_enter Try.func54, Try.ntmps54
    go_wp2_with (go_at_call 51; (with_reducible refine (IX.out _).mono ?_); rintro e w1 ⟨rfl, rfl⟩)
    go_ret
    exact ⟨rfl, rfl⟩
  · obtain ⟨k, h1, h2, h3⟩ := idx_yes hc
    rw [h1] at IX
    rw [← h3]
    have g1 : (0 : Int) ≤ k := by omega
    have g2 : (k : Int) ≤ s.length := by omega
    clear hc h1 h3
    go_enter Try.func54, Try.ntmps54
    go_wp2_with (go_at_call 51; (with_reducible refine (IX.out _).mono ?_); rintro e w1 ⟨rfl, rfl⟩)
    go_ret
    exact ⟨rfl, rfl⟩

def CheckSays (t : Tl) (w : World) (e : Ending) (w' : World) : Prop := e = .returned (.agg #[.int .i64 (tcheck t).1, .int .i64 (tcheck t).2]) ∧ Below w.heap.size w w'
set_option maxHeartbeats 4000000 in
set_option maxRecDepth 100000 in
theorem tcheck_any (t : Tl) (w : World) : Calls Try.prog 14 #[tlV t] w (CheckSays t w) := by
  have RM := Lib.hid (fun w => room_any t w)
  have LS := Lib.hid (fun w => list_any t w)
  have HI := Lib.hid (fun j hj w => index5 t.t0 t.t1 t.t2 t.t3 t.t4 j hj w)
  unfold tlV tlR txV rmV at *
  go_enter Try.func14, Try.ntmps14
  go_upto_region 2 with (go_at_call 44; (with_reducible refine (RM.out _).mono ?_); rintro e w1 ⟨rfl, hb1⟩; have X1 := Lib.hid (block_below (at_a1 w _ _ _) hb1); have F1 := Lib.hid (block_below (at_a2 w _ _ _) hb1); have K1 := Lib.hid (below_a2 hb1); clear hb1)
  have X2 := Lib.hid (block_below X1.out ((Below.refl _ w1).alloc (Nat.le_refl _) (.cells #[.int .i64 30, .int .i64 30, .int .i64 30, .int .i64 4, .int .i64 (last4 t.tr : Nat)] 75)))
  have F2 := Lib.hid (block_below F1.out ((Below.refl _ w1).alloc (Nat.le_refl _) (.cells #[.int .i64 30, .int .i64 30, .int .i64 30, .int .i64 4, .int .i64 (last4 t.tr : Nat)] 75)))
  have B2 := Lib.hid (at_a0 w1 #[.int .i64 30, .int .i64 30, .int .i64 30, .int .i64 4, .int .i64 (last4 t.tr : Nat)] 75)
  have K2 := Lib.hid (K1.out.alloc K1.out.size (.cells #[.int .i64 30, .int .i64 30, .int .i64 30, .int .i64 4, .int .i64 (last4 t.tr : Nat)] 75))
  generalize w1.alloc (.cells #[.int .i64 30, .int .i64 30, .int .i64 30, .int .i64 4, .int .i64 (last4 t.tr : Nat)] 75) = V at *
  generalize w1.heap.size = vb at *
  clear X1 F1 K1
  have a0 := cell_at (j := 0) X2.out; have a1 := cell_at (j := 1) X2.out; have a2 := cell_at (j := 2) X2.out; have a3 := cell_at (j := 3) X2.out; have a4 := cell_at (j := 4) X2.out; have a5 := cell_at (j := 5) X2.out; have a6 := cell_at (j := 6) X2.out; simp only [List.getElem?_toArray, List.getElem?_cons_zero, List.getElem?_cons_succ] at a0 a1 a2 a3 a4 a5 a6
  go_wp2_with (go_at_call 45; (with_reducible refine (LS.out _).mono ?_); rintro e w2 ⟨rfl, hb2⟩; have F3 := Lib.hid (block_below F2.out hb2); have B3 := Lib.hid (block_below B2.out hb2); have K3 := Lib.hid (nextB K2.out hb2); clear hb2)
  clear X2 F2 B2 K2 a0 a1 a2 a3 a4 a5 a6 RM LS
  obtain ⟨res, hres⟩ : ∃ r, r = tcheck t := ⟨_, rfl⟩
  have HRES := Lib.hid hres
  have h00 : tckL ((pairs t).drop 0) 0 = res := hres.symm
  clear hres
  go_loop [11] (fun i => ∃ (j : Nat), j ≤ 5 ∧ i = .int .i64 j ∧ Hid (tckL ((pairs t).drop j) j = res)) (fun i => 5 - (intOf i).toNat)
  case atStart => exact ⟨0, by omega, rfl, Lib.hid h00⟩
  case round =>
    obtain ⟨j, hj, rfl, HT⟩ := hrel
    clear h00
    by_cases hj5 : j < 5
    · have hT := HT.out
      rw [pairs_drop t j hj5, tckL] at hT
      have hi := HI.out j hj5 w2
      have hc := room_cell B3.out j hj5
      have hr := rooms_le t.tr j hj5
      unfold texts at hT
      generalize [t.t0, t.t1, t.t2, t.t3, t.t4][j]'hj5 = s at *
      generalize (rooms t.tr)[j]'hj5 = r at *
      have IX := Lib.hid (fun w => index_any s w)
      have g0 : (j : Int) < 5 := by omega
      have g1 : (0 : Int) ≤ j := by omega
      clear HT
      rcases h0 : s.contains 0 with _ | _
      · obtain ⟨h1, _⟩ := idx_no h0
        rw [h1] at IX
        rw [h0, if_neg (by decide)] at hT
        clear h0 h1
        by_cases hlen : r < s.length
        · rw [if_pos hlen] at hT
          have g2 : (r : Int) < s.length := by omega
          have HT := Lib.hid hT
          have f0 := cell_at (j := 0) F3.out; have f1 := cell_at (j := 1) F3.out; have ff0 := free_at (j := 0) F3.out; have ff1 := free_at (j := 1) F3.out; simp only [List.getElem?_toArray, List.getElem?_cons_zero, List.getElem?_cons_succ] at f0 f1
          clear hT
          go_wp2_with (go_at_call 51; (with_reducible refine (IX.out _).mono ?_); rintro e w3 ⟨rfl, rfl⟩)
          refine end_cell rfl rfl rfl (store2 F3.out rfl) Try.underlying33 rfl (by kernel_rfl) ⟨?_, ?_⟩
          · rw [← HRES.out, ← HT.out]
          · exact (K3.out.setCell (by simp) _).setCell (by simp) _
        · rw [if_neg hlen] at hT
          have g2 : ¬ (r : Int) < s.length := by omega
          have HT := Lib.hid hT
          clear hT
          go_wp2_with (go_at_call 51; (with_reducible refine (IX.out _).mono ?_); rintro e w3 ⟨rfl, rfl⟩)
          go_round
          case rel => exact ⟨j + 1, by omega, by go_num, HT⟩
          case measure => simp [intOf]; omega
      · obtain ⟨k, h1, _, _⟩ := idx_yes h0
        rw [h1] at IX
        rw [h0, if_pos rfl] at hT
        have g2 : (0 : Int) ≤ k := by omega
        have HT := Lib.hid hT
        have f0 := cell_at (j := 0) F3.out; have f1 := cell_at (j := 1) F3.out; have ff0 := free_at (j := 0) F3.out; have ff1 := free_at (j := 1) F3.out; simp only [List.getElem?_toArray, List.getElem?_cons_zero, List.getElem?_cons_succ] at f0 f1
        clear h0 h1 hT
        go_wp2_with (go_at_call 51; (with_reducible refine (IX.out _).mono ?_); rintro e w3 ⟨rfl, rfl⟩)
        refine end_cell rfl rfl rfl (store2 F3.out rfl) Try.underlying33 rfl (by kernel_rfl) ⟨?_, ?_⟩
        · rw [← HRES.out, ← HT.out]
        · exact (K3.out.setCell (by simp) _).setCell (by simp) _
    · have g0 : ¬ (j : Int) < 5 := by omega
      have hT := HT.out
      rw [List.drop_eq_nil_of_le (by simp [pairs]; omega), tckL] at hT
      have HT := Lib.hid hT
      have f0 := cell_at (j := 0) F3.out; have f1 := cell_at (j := 1) F3.out; have ff0 := free_at (j := 0) F3.out; have ff1 := free_at (j := 1) F3.out; simp only [List.getElem?_toArray, List.getElem?_cons_zero, List.getElem?_cons_succ] at f0 f1
      clear hT
      go_wp2
      refine end_cell rfl rfl rfl (store2 F3.out rfl) Try.underlying33 rfl (by kernel_rfl) ⟨?_, ?_⟩
      · rw [← HRES.out, ← HT.out]
      · exact (K3.out.setCell (by simp) _).setCell (by simp) _
end Go.Proofs.Ytlgkbkbghheokaa
