/- Layer 12 (tail): the document's functions, walked. -/
import Derived.Test.YtlgkbkbghheokaaTail4
namespace Go.Proofs.Ytlgkbkbghheokaa
open Go.RowKit
set_option linter.unusedVariables false

def rtR (t : Tl) : List Value := [.string ⟨t.t0.toArray⟩, .string ⟨t.t1.toArray⟩, .string ⟨t.t2.toArray⟩, .string ⟨t.t3.toArray⟩, .string ⟨t.t4.toArray⟩, .int .i64 t.tr.toNat, .int .i64 t.ge.toNat]
def rtV (t : Tl) : Value := .agg (rtR t).toArray
theorem tof_any (t : Tl) (w : World) : Calls Try.prog 10 #[tlV t] w fun e w' => e = .returned (rtV t) ∧ Below w.heap.size w w' := by
  unfold tlV tlR rtV rtR
  have h1 := byte_le t.tr
  have h2 := byte_le t.ge
  go_enter Try.func10, Try.ntmps10
  go_wp2
  exact end_cell rfl rfl rfl (at_a2 _ _ _ _) Try.underlying28 rfl (by kernel_rfl) ⟨rfl, ((Below.refl _ _).alloc (Nat.le_refl _) _).alloc (by simp) _⟩
theorem rwidth_any (j : Nat) (hj : j < 5) (tr : UInt8) (w : World) : Calls Try.prog 50 #[.int .i64 j, .int .i64 tr.toNat] w fun e w' => e = .returned (.int .i64 (((rooms tr)[j]'hj : Nat) : Int)) ∧ w = w' := by
  by_cases ht : tr = 0
  · have t1 : (((tr.toNat : Nat) : Int) != 0) = false := by rw [ht]; rfl
    have e4 : last4 tr = 30 := by unfold last4; rw [if_pos ht]
    rcases (by omega : j = 0 ∨ j = 1 ∨ j = 2 ∨ j = 3 ∨ j = 4) with h | h | h | h | h <;> subst h
    all_goals
      simp only [rooms, e4, List.getElem_cons_zero, List.getElem_cons_succ]
      clear ht e4
      go_enter Try.func50, Try.ntmps50
      go_wp2
      go_ret
      exact ⟨rfl, rfl⟩
  · have t1 : (((tr.toNat : Nat) : Int) != 0) = true := by
      simp
      intro e
      apply ht
      rw [u8_eq]
      exact e
    have e4 : last4 tr = 28 := by unfold last4; rw [if_neg ht]
    rcases (by omega : j = 0 ∨ j = 1 ∨ j = 2 ∨ j = 3 ∨ j = 4) with h | h | h | h | h <;> subst h
    all_goals
      simp only [rooms, e4, List.getElem_cons_zero, List.getElem_cons_succ]
      clear ht e4
      go_enter Try.func50, Try.ntmps50
      go_wp2
      go_ret
      exact ⟨rfl, rfl⟩
theorem cut0_cons (c : UInt8) (s : List UInt8) : cut0 (c :: s) = if c = 0 then [] else c :: cut0 s := by
  unfold cut0
  rw [List.takeWhile_cons]
  by_cases h : c = 0 <;> simp [h]
set_option maxHeartbeats 1000000 in
set_option maxRecDepth 100000 in
theorem rcut_any (s : List UInt8) (w : World) (hl : s.length ≤ 1000000000) : Calls Try.prog 49 #[.string ⟨s.toArray⟩] w fun e w' => e = .returned (.string ⟨(cut0 s).toArray⟩) ∧ w = w' := by
  go_enter Try.func49, Try.ntmps49
  go_wp2
  go_loop [3] (fun i => ∃ (j : Nat), j ≤ s.length ∧ i = .int .i64 j ∧ Hid (cut0 s = s.take j ++ cut0 (s.drop j))) (fun i => s.length - (intOf i).toNat)
  case atStart => exact ⟨0, by omega, rfl, Lib.hid (by simp)⟩
  case round =>
    obtain ⟨j, hj, rfl, HC⟩ := hrel
    by_cases hlt : j < s.length
    · have h0 : (j : Int) < s.length := by omega
      have h1 : (j : Int) ≤ s.length := by omega
      have hC := HC.out
      rw [drop_cons s j hlt, cut0_cons] at hC
      by_cases hz : s[j] = 0
      · rw [if_pos hz, List.append_nil] at hC
        have HC := Lib.hid hC
        have t1 : (((s[j].toNat : Nat) : Int) == 0) = true := by rw [hz]; rfl
        clear hC hz
        go_wp2
        go_ret
        exact ⟨ret_str HC.out.symm, rfl⟩
      · rw [if_neg hz] at hC
        have HC := Lib.hid (show cut0 s = s.take (j + 1) ++ cut0 (s.drop (j + 1)) by rw [hC, List.take_succ_eq_append_getElem hlt, List.append_assoc]; rfl)
        have t1 : (((s[j].toNat : Nat) : Int) == 0) = false := by
          simp
          intro e
          apply hz
          rw [u8_eq]
          exact e
        clear hC hz
        go_wp2
        go_round
        case rel => exact ⟨j + 1, by omega, by go_num, HC⟩
        case measure => simp [intOf]; omega
    · have h0 : ¬ (j : Int) < s.length := by omega
      go_wp2
      go_ret
      have := HC.out
      rw [List.drop_eq_nil_of_le (by omega), List.take_of_length_le (by omega)] at this
      exact ⟨ret_str (by rw [this]; simp [cut0]), rfl⟩
theorem cut0_eq (s : List UInt8) : (cut0 s = s) ↔ s.contains 0 = false := by
  rcases idx_spec s with ⟨_, h2, h3⟩ | ⟨k, _, h2, h3, h4⟩
  · exact ⟨fun _ => h3, fun _ => h2⟩
  · constructor
    · intro e
      have := congrArg List.length h3
      rw [e, List.length_take] at this
      omega
    · intro e
      rw [h4] at e
      cases e
theorem rt_cell {w : World} {b : Nat} {T : TypeId} {t : Tl} (h : w.heap[b]? = some (.cells #[.string ⟨t.t0.toArray⟩, .string ⟨t.t1.toArray⟩, .string ⟨t.t2.toArray⟩, .string ⟨t.t3.toArray⟩, .string ⟨t.t4.toArray⟩, .int .i64 t.tr.toNat, .int .i64 t.ge.toNat] T (0, 0))) (j : Nat) (hj : j < 5) :
    w.cell? ⟨b, j, none⟩ = some (.string ⟨((texts t)[j]'hj).toArray⟩) ∧ w.cell? ⟨b, 5, none⟩ = some (.int .i64 t.tr.toNat) ∧ w.cell? ⟨b, 6, none⟩ = some (.int .i64 t.ge.toNat) := by
  refine ⟨?_, cell_at (j := 5) h, cell_at (j := 6) h⟩
  have h1 := cell_at (j := j) h
  rw [h1]
  rcases (by omega : j = 0 ∨ j = 1 ∨ j = 2 ∨ j = 3 ∨ j = 4) with h | h | h | h | h <;> subst h <;> rfl

def RCheckSays (t : Tl) (w : World) (e : Ending) (w' : World) : Prop := e = .returned (.tuple #[.int .i64 (tcheck t).1, .int .i64 (tcheck t).2]) ∧ Below w.heap.size w w'
set_option maxHeartbeats 4000000 in
set_option maxRecDepth 100000 in
theorem rtcheck_any (t : Tl) (w : World) (hl : Hid (∀ j (hj : j < 5), ((texts t)[j]'hj).length ≤ 1000000000)) : Calls Try.prog 13 #[rtV t] w (RCheckSays t w) := by
  unfold rtV rtR
  go_enter Try.func13, Try.ntmps13
  go_wp2
  have X1 := Lib.hid (at_a0 w #[.string ⟨t.t0.toArray⟩, .string ⟨t.t1.toArray⟩, .string ⟨t.t2.toArray⟩, .string ⟨t.t3.toArray⟩, .string ⟨t.t4.toArray⟩, .int .i64 t.tr.toNat, .int .i64 t.ge.toNat] 28)
  have K1 := Lib.hid (show Below w.heap.size w (w.alloc (.cells #[.string ⟨t.t0.toArray⟩, .string ⟨t.t1.toArray⟩, .string ⟨t.t2.toArray⟩, .string ⟨t.t3.toArray⟩, .string ⟨t.t4.toArray⟩, .int .i64 t.tr.toNat, .int .i64 t.ge.toNat] 28)) from (Below.refl _ _).alloc (Nat.le_refl _) _)
  generalize w.alloc (.cells #[.string ⟨t.t0.toArray⟩, .string ⟨t.t1.toArray⟩, .string ⟨t.t2.toArray⟩, .string ⟨t.t3.toArray⟩, .string ⟨t.t4.toArray⟩, .int .i64 t.tr.toNat, .int .i64 t.ge.toNat] 28) = V at *
  generalize hxe : w.heap.size = xb at *
  have HX := Lib.hid hxe
  clear hxe
  obtain ⟨res, hres⟩ : ∃ r, r = tcheck t := ⟨_, rfl⟩
  have HRES := Lib.hid hres
  have h00 := Lib.hid (show tckL ((pairs t).drop 0) 0 = res from hres.symm)
  clear hres
  go_loopw [4] (fun i wr => ∃ (j : Nat), j ≤ 5 ∧ i = .int .i64 j ∧ Hid (tckL ((pairs t).drop j) j = res) ∧ Hid (wr.heap = V.heap) ∧ Hid (Below xb w wr)) (fun i _ => 5 - (intOf i).toNat)
  case atStart => exact ⟨0, by omega, rfl, h00, Lib.hid rfl, K1⟩
  case round =>
    obtain ⟨j, hj, rfl, HT, HV, HK⟩ := hrel
    by_cases hj5 : j < 5
    · have hT := HT.out
      rw [pairs_drop t j hj5, tckL] at hT
      obtain ⟨hc, hc5, hc6⟩ := rt_cell ((congrArg (fun h => h[xb]?) HV.out).trans X1.out) j hj5
      have hr := rooms_le t.tr j hj5
      have hs := hl.out j hj5
      have WI := Lib.hid (fun w => rwidth_any j hj5 t.tr w)
      have CU := Lib.hid (fun w => rcut_any ((texts t)[j]'hj5) w hs)
      have hce := cut0_eq ((texts t)[j]'hj5)
      generalize (texts t)[j]'hj5 = s at *
      generalize (rooms t.tr)[j]'hj5 = r at *
      have g0 : (j : Int) < 5 := by omega
      have g1 : (0 : Int) ≤ j := by omega
      clear HT
      rcases h0 : s.contains 0 with _ | _
      · rw [hce.2 h0] at CU
        rw [h0, if_neg (by decide)] at hT
        clear h0 hce
        by_cases hlen : r < s.length
        · rw [if_pos hlen] at hT
          have g2 : (r : Int) < s.length := by omega
          have HT := Lib.hid hT
          clear hT
          go_upto_region 4 with (fail)
          go_quiet ((go_at_call 49; exact Calls.quiet_of_same ((CU.out _).mono fun e w' ⟨h1, h2⟩ => ⟨h1, h2.symm⟩)))
          have HV2 : Hid ((wr.drewN nq).heap = V.heap) := HV
          have HK2 : Hid (Below xb w (wr.drewN nq)) := Lib.hid ⟨HK.out.os, HK.out.tape, HK.out.output, HK.out.size, HK.out.block⟩
          have hcb := (rt_cell ((congrArg (fun h => h[xb]?) HV2.out).trans X1.out) 0 (by decide)).2
          have hca : (wr.drewN nq).cell? ⟨xb, j, none⟩ = some (.string ⟨s.toArray⟩) := hc
          obtain ⟨hcb1, hcb2⟩ := hcb
          clear hc hc5 hc6
          generalize wr.drewN nq = wq at *
          go_upto_region 6 with (fail)
          go_quiet ((go_at_call 50; exact Calls.quiet_of_same ((WI.out _).mono fun e w' ⟨h1, h2⟩ => ⟨h1, h2.symm⟩)))
          go_wp2
          go_ret2
          exact ⟨by rw [← HRES.out, ← HT.out]; rfl, by rw [HX.out]; exact ⟨HK2.out.os, HK2.out.tape, HK2.out.output, HK2.out.size, HK2.out.block⟩⟩
        · rw [if_neg hlen] at hT
          have g2 : ¬ (r : Int) < s.length := by omega
          have HT := Lib.hid hT
          clear hT
          go_upto_region 4 with (fail)
          go_quiet ((go_at_call 49; exact Calls.quiet_of_same ((CU.out _).mono fun e w' ⟨h1, h2⟩ => ⟨h1, h2.symm⟩)))
          have HV2 : Hid ((wr.drewN nq).heap = V.heap) := HV
          have HK2 : Hid (Below xb w (wr.drewN nq)) := Lib.hid ⟨HK.out.os, HK.out.tape, HK.out.output, HK.out.size, HK.out.block⟩
          have hcb := (rt_cell ((congrArg (fun h => h[xb]?) HV2.out).trans X1.out) 0 (by decide)).2
          have hca : (wr.drewN nq).cell? ⟨xb, j, none⟩ = some (.string ⟨s.toArray⟩) := hc
          obtain ⟨hcb1, hcb2⟩ := hcb
          clear hc hc5 hc6
          generalize wr.drewN nq = wq at *
          go_upto_region 6 with (fail)
          go_quiet ((go_at_call 50; exact Calls.quiet_of_same ((WI.out _).mono fun e w' ⟨h1, h2⟩ => ⟨h1, h2.symm⟩)))
          go_wp2
          refine ⟨⟨j + 1, by omega, by simp, HT, HV2, Lib.hid ⟨HK2.out.os, HK2.out.tape, HK2.out.output, HK2.out.size, HK2.out.block⟩⟩, by simp [intOf]; omega⟩
      · have hne : ¬ cut0 s = s := fun e => by rw [hce.1 e] at h0; cases h0
        have t1 : (ByteArray.toList ⟨(cut0 s).toArray⟩ == ByteArray.toList ⟨s.toArray⟩) = false := by
          rw [ByteArray.toList_eq, ByteArray.toList_eq]
          simpa using hne
        rw [h0, if_pos rfl] at hT
        have HT := Lib.hid hT
        have t2 : (cut0 s == s) = false := by simpa using hne
        have HNE := Lib.hid hne
        clear hT h0 hce hne
        generalize cut0 s = s2 at *
        have hne2 : (s2 = s) = False := by simpa using HNE.out
        go_upto_region 4 with (fail)
        go_quiet ((go_at_call 49; exact Calls.quiet_of_same ((CU.out _).mono fun e w' ⟨h1, h2⟩ => ⟨h1, h2.symm⟩)))
        have HK2 : Hid (Below xb w (wr.drewN nq)) := Lib.hid ⟨HK.out.os, HK.out.tape, HK.out.output, HK.out.size, HK.out.block⟩
        generalize wr.drewN nq = wq at *
        go_wp2
        go_ret2
        exact ⟨by rw [← HRES.out, ← HT.out]; rfl, by rw [HX.out]; exact HK2.out⟩
    · have g0 : ¬ (j : Int) < 5 := by omega
      have hT := HT.out
      rw [List.drop_eq_nil_of_le (by simp [pairs]; omega), tckL] at hT
      have HT := Lib.hid hT
      clear hT
      go_wp2
      go_ret2
      exact ⟨by rw [← HRES.out, ← HT.out]; rfl, by rw [HX.out]; exact HK.out⟩
end Go.Proofs.Ytlgkbkbghheokaa
