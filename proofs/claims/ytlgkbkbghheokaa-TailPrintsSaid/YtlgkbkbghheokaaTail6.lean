/- Layer 12 (tail): the document's Print and Parse, walked. -/
import Derived.Test.YtlgkbkbghheokaaTail5
namespace Go.Proofs.Ytlgkbkbghheokaa
open Go.RowKit
set_option linter.unusedVariables false

def Fits (t : Tl) : Prop := ∀ x ∈ pairs t, x.1.contains 0 = false ∧ x.1.length ≤ x.2
theorem fills_le (t : Tl) (h : Fits t) (j : Nat) : (fills ((pairs t).take j)).flatten.length ≤ 300 := by
  have h4 : last4 t.tr ≤ 30 := by unfold last4; split <;> omega
  have hr : ∀ x ∈ pairs t, x.2 ≤ 30 := by
    intro x hx
    simp only [pairs, List.mem_cons, List.not_mem_nil, or_false] at hx
    rcases hx with rfl | rfl | rfl | rfl | rfl <;> simp <;> omega
  have h1 := flat_len (fills ((pairs t).take j)) 30 (by
    intro p hp
    simp only [fills, List.mem_flatMap, List.mem_cons, List.not_mem_nil, or_false] at hp
    obtain ⟨x, hx, hp⟩ := hp
    have hx2 := List.mem_of_mem_take hx
    have a := (h x hx2).2
    have b := hr x hx2
    rcases hp with rfl | rfl
    · omega
    · rw [List.length_replicate]; omega)
  have h2 := fills_len ((pairs t).take j)
  rw [List.length_take] at h2
  have h3 : (pairs t).length = 5 := rfl
  rw [h2] at h1
  omega
def accT (t : Tl) (j : Nat) : List UInt8 := [84, 65, 71] ++ (fills ((pairs t).take j)).flatten
theorem accT_step (t : Tl) (j : Nat) (hj : j < 5) : accT t (j + 1) = accT t j ++ ((texts t)[j]'hj) ++ List.replicate ((rooms t.tr)[j]'hj - ((texts t)[j]'hj).length) 0 := by
  have htake : (pairs t).take (j + 1) = (pairs t).take j ++ [((texts t)[j]'hj, (rooms t.tr)[j]'hj)] := by
    have h5 : j < (pairs t).length := hj
    have hd := pairs_drop t j hj
    rw [List.take_succ_eq_append_getElem h5]
    rw [List.drop_eq_getElem_cons h5] at hd
    rw [(List.cons.inj hd).1]
  unfold accT
  rw [htake, fills_snoc, List.flatten_append]
  simp
theorem accT_len (t : Tl) (h : Fits t) (j : Nat) : (accT t j).length ≤ 303 := by
  have := fills_le t h j
  unfold accT
  rw [List.length_append]
  simp only [List.length_cons, List.length_nil]
  omega
theorem fits_at (t : Tl) (h : Fits t) (j : Nat) (hj : j < 5) : ((texts t)[j]'hj).length ≤ (rooms t.tr)[j]'hj := by
  have := pairs_drop t j hj
  have h2 : ((texts t)[j]'hj, (rooms t.tr)[j]'hj) ∈ pairs t := List.mem_of_mem_drop (by rw [this]; exact List.mem_cons_self)
  exact (h _ h2).2
theorem printT_acc (t : Tl) : printT t = accT t 5 ++ ((if t.tr = 0 then [] else [0, t.tr]) ++ [t.ge]) := by
  unfold printT partsT accT
  have e0 : (pairs t).take 5 = pairs t := rfl
  have e1 : bigL t.ge.toNat 1 = [t.ge] := by simp [bigL, smallL]
  have hc := UInt8.toNat_lt t.tr
  have e2 : bigL t.tr.toNat 2 = [0, t.tr] := by
    have : t.tr.toNat / 256 = 0 := by omega
    simp [bigL, smallL, this]
  rw [e0, e1, e2]
  by_cases h : t.tr = 0 <;> simp [h]

def RPrintSays (t : Tl) (w : World) (e : Ending) (w' : World) : Prop := e = .returned (.string ⟨(printT t).toArray⟩) ∧ Below w.heap.size w w'
set_option maxHeartbeats 4000000 in
set_option maxRecDepth 100000 in
theorem rtprint_any (t : Tl) (w : World) (hf : Fits t) : Calls Try.prog 16 #[rtV t] w (RPrintSays t w) := by
  have HF := Lib.hid hf
  clear hf
  unfold rtV rtR
  go_enter Try.func16, Try.ntmps16
  go_wp2
  have X1 := Lib.hid (at_a0 w #[.string ⟨t.t0.toArray⟩, .string ⟨t.t1.toArray⟩, .string ⟨t.t2.toArray⟩, .string ⟨t.t3.toArray⟩, .string ⟨t.t4.toArray⟩, .int .i64 t.tr.toNat, .int .i64 t.ge.toNat] 28)
  have K1 := Lib.hid (show Below w.heap.size w (w.alloc (.cells #[.string ⟨t.t0.toArray⟩, .string ⟨t.t1.toArray⟩, .string ⟨t.t2.toArray⟩, .string ⟨t.t3.toArray⟩, .string ⟨t.t4.toArray⟩, .int .i64 t.tr.toNat, .int .i64 t.ge.toNat] 28)) from (Below.refl _ _).alloc (Nat.le_refl _) _)
  generalize w.alloc (.cells #[.string ⟨t.t0.toArray⟩, .string ⟨t.t1.toArray⟩, .string ⟨t.t2.toArray⟩, .string ⟨t.t3.toArray⟩, .string ⟨t.t4.toArray⟩, .int .i64 t.tr.toNat, .int .i64 t.ge.toNat] 28) = V at *
  generalize hxe : w.heap.size = xb at *
  have HX := Lib.hid hxe
  have HKS : Hid (xb ≤ V.heap.size) := Lib.hid (by have := K1.out.size; rw [hxe] at this; exact this)
  clear hxe
  go_loop [3, 4] (fun z i => ∃ (j : Nat), j ≤ 5 ∧ i = .int .i64 j ∧ z = .string ⟨(accT t j).toArray⟩) (fun _ i => 5 - (intOf i).toNat)
  case atStart => exact ⟨0, by omega, rfl, rfl⟩
  case round =>
    obtain ⟨j, hj, rfl, rfl⟩ := hrel
    have hal := accT_len t HF.out j
    by_cases hj5 : j < 5
    · obtain ⟨hc, hc5, hc6⟩ := rt_cell X1.out j hj5
      have hr := rooms_le t.tr j hj5
      have WI := Lib.hid (fun w => rwidth_any j hj5 t.tr w)
      have hfit := fits_at t HF.out j hj5
      have HA := Lib.hid (accT_step t j hj5)
      generalize (texts t)[j]'hj5 = s at *
      generalize (rooms t.tr)[j]'hj5 = r at *
      have g0 : (j : Int) < 5 := by omega
      have g1 : (0 : Int) ≤ j := by omega
      generalize accT t j = A at *
      go_upto_region 6 with (fail)
      go_wp2
      go_loop [3, 5] (fun z i => ∃ (k : Nat), s.length ≤ k ∧ k ≤ r ∧ i = .int .i64 k ∧ z = .string ⟨(A ++ s ++ List.replicate (k - s.length) 0).toArray⟩) (fun _ i => r - (intOf i).toNat)
      case atStart => exact ⟨s.length, Nat.le_refl _, hfit, rfl, by simp⟩
      case round =>
        obtain ⟨k, hk1, hk2, rfl, rfl⟩ := hrel
        have hzl : (A ++ s ++ List.replicate (k - s.length) (0 : UInt8)).length ≤ 400 := by
          rw [List.length_append, List.length_append, List.length_replicate]
          omega
        have HZ := Lib.hid (show k < r → A ++ s ++ List.replicate (k + 1 - s.length) (0 : UInt8) = A ++ s ++ List.replicate (k - s.length) 0 ++ [0] from fun _ => by
          rw [show k + 1 - s.length = (k - s.length) + 1 by omega, List.replicate_succ', List.append_assoc (A ++ s)])
        have HE := Lib.hid (show k = r → A ++ s ++ List.replicate (k - s.length) (0 : UInt8) = accT t (j + 1) from fun e => by rw [e, HA.out])
        generalize A ++ s ++ List.replicate (k - s.length) (0 : UInt8) = Z at *
        by_cases hkr : k < r
        · have g2 : (k : Int) < r := by omega
          go_wp2_with (go_at_call 50; (with_reducible refine (WI.out _).mono ?_); rintro e w5 ⟨rfl, rfl⟩)
          go_round
          case rel => exact ⟨k + 1, by omega, by omega, by go_num, by rw [HZ.out hkr]⟩
          case measure => simp [intOf]; omega
        · have g2 : ¬ (k : Int) < r := by omega
          have hkr2 : k = r := by omega
          have hZ := HE.out hkr2
          go_wp2_with (go_at_call 50; (with_reducible refine (WI.out _).mono ?_); rintro e w5 ⟨rfl, rfl⟩)
          go_round
          case rel => exact ⟨j + 1, by omega, by go_num, rfl⟩
          case measure => simp [intOf]; omega
    · have g0 : ¬ (j : Int) < 5 := by omega
      obtain rfl : j = 5 := by omega
      have HP := Lib.hid (printT_acc t)
      generalize accT t 5 = A at *
      obtain ⟨_, hc5, hc6⟩ := rt_cell X1.out 0 (by decide)
      have hb1 := byte_le t.tr
      have hb2 := byte_le t.ge
      have hxv := (Array.getElem?_eq_some_iff.1 X1.out).1
      by_cases ht : t.tr = 0
      · have t1 : (((t.tr.toNat : Nat) : Int) != 0) = false := by rw [ht]; rfl
        have hp := HP.out
        rw [if_pos ht] at hp
        have HP := Lib.hid hp
        clear ht hp
        go_wp2
        go_ret
        exact ⟨by rw [HP.out]; simp, by rw [HX.out]; exact K1.out.alloc HKS.out _⟩
      · have t1 : (((t.tr.toNat : Nat) : Int) != 0) = true := by
          simp
          intro e
          apply ht
          rw [u8_eq]
          exact e
        have hp := HP.out
        rw [if_neg ht] at hp
        have HP := Lib.hid hp
        clear ht hp
        have hcv : (convert 87 9 (.slice (some ⟨V.heap.size + 1, 0, none⟩) 1 1)).run Try.prog ((V.alloc (.cells #[.int .u8 0, .int .u8 t.tr.toNat] 5)).alloc (.cells #[.int .u8 t.ge.toNat] 5)) = .ok (.string ⟨#[t.ge]⟩) ((V.alloc (.cells #[.int .u8 0, .int .u8 t.tr.toNat] 5)).alloc (.cells #[.int .u8 t.ge.toNat] 5)) := by
          have h := conv_lit1 (P := Try.prog) (V.alloc (.cells #[.int .u8 0, .int .u8 t.tr.toNat] 5)) 87 9 5 (t.ge.toNat : Int) Try.underlying87 Try.underlying5 Try.underlying9
          simpa using h
        go_wp2
        go_ret
        exact ⟨by rw [HP.out]; simp, by rw [HX.out]; exact (K1.out.alloc HKS.out _).alloc (by have := HKS.out; simp; omega) _⟩
end Go.Proofs.Ytlgkbkbghheokaa
