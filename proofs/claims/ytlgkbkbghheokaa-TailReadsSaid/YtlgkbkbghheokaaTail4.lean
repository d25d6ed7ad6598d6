/- Layer 12 (tail): Parse, Split, walked. -/
import Derived.Test.YtlgkbkbghheokaaTail3
import Derived.Deep.QuietTactic
import Derived.BigQuiet
namespace Go.Proofs.Ytlgkbkbghheokaa
open Go.RowKit
set_option linter.unusedVariables false

def zeroT : Tl := ⟨[], [], [], [], [], 0, 0⟩
theorem prefix_any (s p : List UInt8) (w : World) : Calls Try.prog 52 #[.string ⟨s.toArray⟩, .string ⟨p.toArray⟩] w fun e w' => e = .returned (.bool (p.isPrefixOf s)) ∧ w = w' :=
  (Try.strings_HasPrefix ⟨s.toArray⟩ ⟨p.toArray⟩ w).mono fun e w' ⟨h1, h2⟩ => ⟨h1, h2.symm⟩
def ParseSays (t : Tl) (ok : Bool) (w : World) (e : Ending) (w' : World) : Prop := e = .returned (.tuple #[tlV t, .bool ok]) ∧ Below w.heap.size w w'
set_option maxHeartbeats 1000000 in
set_option maxRecDepth 100000 in
theorem tparse_no (b : List UInt8) (w : World) (h : b.length ≠ 128 ∨ ([84, 65, 71] : List UInt8).isPrefixOf b = false) : Calls Try.prog 15 #[.string ⟨b.toArray⟩] w (ParseSays zeroT false w) := by
  have PX := Lib.hid (fun w => prefix_any b [84, 65, 71] w)
  unfold ParseSays tlV tlR zeroT
  by_cases h1 : b.length = 128
  · have t1 : ((b.length : Int) != 128) = false := by rw [h1]; rfl
    have h2 := h.resolve_left (fun x => x h1)
    rw [h2] at PX
    clear h h1 h2
    go_enter Try.func15, Try.ntmps15
    go_wp2_with (go_at_call 52; (with_reducible refine (PX.out _).mono ?_); rintro e w1 ⟨rfl, rfl⟩)
    exact end_cell_tmp rfl rfl rfl (at_a0 _ _ _) Try.underlying25 rfl (by kernel_rfl) ⟨rfl, (Below.refl _ _).alloc (Nat.le_refl _) _⟩
  · have t1 : ((b.length : Int) != 128) = true := by simp; omega
    clear h h1 PX
    go_enter Try.func15, Try.ntmps15
    go_wp2
    exact end_cell_tmp rfl rfl rfl (at_a0 _ _ _) Try.underlying25 rfl (by kernel_rfl) ⟨rfl, (Below.refl _ _).alloc (Nat.le_refl _) _⟩

def parseT (b : List UInt8) : Tl :=
  if b.getD 125 0 = 0 ∧ b.getD 126 0 ≠ 0 then ⟨cut0 ((b.drop 3).take 30), cut0 ((b.drop 33).take 30), cut0 ((b.drop 63).take 30), cut0 ((b.drop 93).take 4), cut0 (((b.drop 97).take 30).take 28), b.getD 126 0, b.getD 127 0⟩
  else ⟨cut0 ((b.drop 3).take 30), cut0 ((b.drop 33).take 30), cut0 ((b.drop 63).take 30), cut0 ((b.drop 93).take 4), cut0 ((b.drop 97).take 30), 0, b.getD 127 0⟩
theorem store7t {w : World} {b : Nat} {C : Array Value} {e : TypeId} {v0 v1 v2 v3 v4 v5 v6 : Value} (h : w.heap[b]? = some (.cells C e (0, 0))) (hC : C.size = 7) :
    (((((((w.setCell ⟨b, 0, none⟩ v0).setCell ⟨b, 1, none⟩ v1).setCell ⟨b, 2, none⟩ v2).setCell ⟨b, 3, none⟩ v3).setCell ⟨b, 4, none⟩ v4).setCell ⟨b, 5, none⟩ v5).setCell ⟨b, 6, none⟩ v6).heap[b]? = some (.cells #[v0, v1, v2, v3, v4, v5, v6] e (0, 0)) := stores_all [v0, v1, v2, v3, v4, v5, v6] h hC
set_option maxHeartbeats 4000000 in
set_option maxRecDepth 100000 in
theorem tparse_yes (b : List UInt8) (w : World) (h1 : b.length = 128) (h2 : ([84, 65, 71] : List UInt8).isPrefixOf b = true) : Calls Try.prog 15 #[.string ⟨b.toArray⟩] w (ParseSays (parseT b) true w) := by
  have PX := Lib.hid (fun w => prefix_any b [84, 65, 71] w)
  have WI := Lib.hid widths_any
  have i0 : ∀ w, (Instr.index 75 (.agg #[.int .i64 30, .int .i64 30, .int .i64 30, .int .i64 4, .int .i64 30]) (.int .i64 0)).run Try.prog w = .ok (.int .i64 30) w := fun _ => by kernel_rfl
  have i1 : ∀ w, (Instr.index 75 (.agg #[.int .i64 30, .int .i64 30, .int .i64 30, .int .i64 4, .int .i64 30]) (.int .i64 1)).run Try.prog w = .ok (.int .i64 30) w := fun _ => by kernel_rfl
  have i2 : ∀ w, (Instr.index 75 (.agg #[.int .i64 30, .int .i64 30, .int .i64 30, .int .i64 4, .int .i64 30]) (.int .i64 2)).run Try.prog w = .ok (.int .i64 30) w := fun _ => by kernel_rfl
  have i3 : ∀ w, (Instr.index 75 (.agg #[.int .i64 30, .int .i64 30, .int .i64 30, .int .i64 4, .int .i64 30]) (.int .i64 3)).run Try.prog w = .ok (.int .i64 4) w := fun _ => by kernel_rfl
  have i4 : ∀ w, (Instr.index 75 (.agg #[.int .i64 30, .int .i64 30, .int .i64 30, .int .i64 4, .int .i64 30]) (.int .i64 4)).run Try.prog w = .ok (.int .i64 30) w := fun _ => by kernel_rfl
  rw [h2] at PX
  unfold rmV at WI
  have hz0 : ((last4 0 : Nat) : Int) = 30 := rfl
  rw [hz0] at WI
  have t1 : ((b.length : Int) != 128) = false := by rw [h1]; rfl
  clear hz0 h2
  go_enter Try.func15, Try.ntmps15
  go_wp2_with (first | (go_at_call 52; (with_reducible refine (PX.out _).mono ?_); rintro e w1 ⟨rfl, rfl⟩) | (go_at_call 53; (with_reducible refine (WI.out _).mono ?_); rintro e w1 ⟨rfl, hb1⟩; have K1 := Lib.hid (below_a3 hb1); have R1 : Hid (w1.heap[w.heap.size]? = some (.cells #[.string ⟨#[]⟩, .string ⟨#[]⟩, .string ⟨#[]⟩, .string ⟨#[]⟩, .string ⟨#[]⟩, .int .u8 0, .int .u8 0] 25 (0, 0))) := Lib.hid (block_below (block_below (at_a0 w _ _) (((Below.refl _ _).alloc (Nat.le_refl _) _).alloc (by simp) _)) hb1); have T1 : Hid (w1.heap[w.heap.size + 1]? = some (.cells #[.string ⟨#[]⟩, .string ⟨#[]⟩, .string ⟨#[]⟩, .string ⟨#[]⟩, .string ⟨#[]⟩, .int .u8 0, .int .u8 0] 25 (0, 0))) := Lib.hid (block_below (block_below (at_a2 w _ _ _) ((Below.refl _ _).alloc (Nat.le_refl _) _)) hb1); have P1 : Hid (w1.heap[w.heap.size + 1 + 1]? = some (.cells #[.string ⟨#[]⟩, .string ⟨#[]⟩, .string ⟨#[]⟩, .string ⟨#[]⟩, .string ⟨#[]⟩] 26 (0, 0))) := Lib.hid (by have h := block_below (at_a0 _ #[.string ⟨#[]⟩, .string ⟨#[]⟩, .string ⟨#[]⟩, .string ⟨#[]⟩, .string ⟨#[]⟩] 26) hb1; simpa using h); clear hb1))
  have HK := Lib.hid K1.out.size
  generalize hre : w.heap.size = R at *
  have HR := Lib.hid hre
  clear hre
  have p0 := cell_at (j := 0) P1.out; have p1 := cell_at (j := 1) P1.out; have p2 := cell_at (j := 2) P1.out; have p3 := cell_at (j := 3) P1.out; have p4 := cell_at (j := 4) P1.out; have pf0 := free_at (j := 0) P1.out; have pf1 := free_at (j := 1) P1.out; have pf2 := free_at (j := 2) P1.out; have pf3 := free_at (j := 3) P1.out; have pf4 := free_at (j := 4) P1.out; simp only [List.getElem?_toArray, List.getElem?_cons_zero, List.getElem?_cons_succ] at p0 p1 p2 p3 p4
  refine wp_loop_rounds 6 ?_
  rw [rounds_succ]
  go_wp2
  rw [rounds_succ]
  go_wp2
  rw [rounds_succ]
  go_wp2
  rw [rounds_succ]
  go_wp2
  rw [rounds_succ]
  go_wp2
  rw [rounds_succ]
  go_upto_region 13 with (fail)
  have P2 : Hid ((((((w1.setCell ⟨R + 1 + 1, 0, none⟩ (.string ⟨((b.drop 3).take 30).toArray⟩)).setCell ⟨R + 1 + 1, 1, none⟩ (.string ⟨((b.drop 33).take 30).toArray⟩)).setCell ⟨R + 1 + 1, 2, none⟩ (.string ⟨((b.drop 63).take 30).toArray⟩)).setCell ⟨R + 1 + 1, 3, none⟩ (.string ⟨((b.drop 93).take 4).toArray⟩)).setCell ⟨R + 1 + 1, 4, none⟩ (.string ⟨((b.drop 97).take 30).toArray⟩)).heap[R + 1 + 1]? = some (.cells #[.string ⟨((b.drop 3).take 30).toArray⟩, .string ⟨((b.drop 33).take 30).toArray⟩, .string ⟨((b.drop 63).take 30).toArray⟩, .string ⟨((b.drop 93).take 4).toArray⟩, .string ⟨((b.drop 97).take 30).toArray⟩] 26 (0, 0))) := Lib.hid (store5 P1.out rfl)
  have T2 : Hid ((((((w1.setCell ⟨R + 1 + 1, 0, none⟩ (.string ⟨((b.drop 3).take 30).toArray⟩)).setCell ⟨R + 1 + 1, 1, none⟩ (.string ⟨((b.drop 33).take 30).toArray⟩)).setCell ⟨R + 1 + 1, 2, none⟩ (.string ⟨((b.drop 63).take 30).toArray⟩)).setCell ⟨R + 1 + 1, 3, none⟩ (.string ⟨((b.drop 93).take 4).toArray⟩)).setCell ⟨R + 1 + 1, 4, none⟩ (.string ⟨((b.drop 97).take 30).toArray⟩)).heap[R + 1]? = some (.cells #[.string ⟨#[]⟩, .string ⟨#[]⟩, .string ⟨#[]⟩, .string ⟨#[]⟩, .string ⟨#[]⟩, .int .u8 0, .int .u8 0] 25 (0, 0))) := Lib.hid (by rw [heap_set_other _ (by omega), heap_set_other _ (by omega), heap_set_other _ (by omega), heap_set_other _ (by omega), heap_set_other _ (by omega)]; exact T1.out)
  have R2 : Hid ((((((w1.setCell ⟨R + 1 + 1, 0, none⟩ (.string ⟨((b.drop 3).take 30).toArray⟩)).setCell ⟨R + 1 + 1, 1, none⟩ (.string ⟨((b.drop 33).take 30).toArray⟩)).setCell ⟨R + 1 + 1, 2, none⟩ (.string ⟨((b.drop 63).take 30).toArray⟩)).setCell ⟨R + 1 + 1, 3, none⟩ (.string ⟨((b.drop 93).take 4).toArray⟩)).setCell ⟨R + 1 + 1, 4, none⟩ (.string ⟨((b.drop 97).take 30).toArray⟩)).heap[R]? = some (.cells #[.string ⟨#[]⟩, .string ⟨#[]⟩, .string ⟨#[]⟩, .string ⟨#[]⟩, .string ⟨#[]⟩, .int .u8 0, .int .u8 0] 25 (0, 0))) := Lib.hid (by rw [heap_set_other _ (by omega), heap_set_other _ (by omega), heap_set_other _ (by omega), heap_set_other _ (by omega), heap_set_other _ (by omega)]; exact R1.out)
  have hRR : R ≤ R + 1 + 1 := by omega
  have hR1 : R ≤ R + 1 := by omega
  have K2 : Hid (Below R w (((((w1.setCell ⟨R + 1 + 1, 0, none⟩ (.string ⟨((b.drop 3).take 30).toArray⟩)).setCell ⟨R + 1 + 1, 1, none⟩ (.string ⟨((b.drop 33).take 30).toArray⟩)).setCell ⟨R + 1 + 1, 2, none⟩ (.string ⟨((b.drop 63).take 30).toArray⟩)).setCell ⟨R + 1 + 1, 3, none⟩ (.string ⟨((b.drop 93).take 4).toArray⟩)).setCell ⟨R + 1 + 1, 4, none⟩ (.string ⟨((b.drop 97).take 30).toArray⟩))) := Lib.hid (((((K1.out.setCell hRR _).setCell hRR _).setCell hRR _).setCell hRR _).setCell hRR _)
  generalize (((((w1.setCell ⟨R + 1 + 1, 0, none⟩ (.string ⟨((b.drop 3).take 30).toArray⟩)).setCell ⟨R + 1 + 1, 1, none⟩ (.string ⟨((b.drop 33).take 30).toArray⟩)).setCell ⟨R + 1 + 1, 2, none⟩ (.string ⟨((b.drop 63).take 30).toArray⟩)).setCell ⟨R + 1 + 1, 3, none⟩ (.string ⟨((b.drop 93).take 4).toArray⟩)).setCell ⟨R + 1 + 1, 4, none⟩ (.string ⟨((b.drop 97).take 30).toArray⟩)) = V at *
  clear P1 T1 R1 K1 p0 p1 p2 p3 p4 pf0 pf1 pf2 pf3 pf4 i0 i1 i2 i3 i4 PX WI HK
  have hq4 : ((b.drop 97).take 30).length = 30 := by rw [List.length_take, List.length_drop]; omega
  have e28 : b.getD 125 0 = ((b.drop 97).take 30).getD 28 0 := by simp [List.getD_eq_getElem?_getD]
  have e29 : b.getD 126 0 = ((b.drop 97).take 30).getD 29 0 := by simp [List.getD_eq_getElem?_getD]
  have A0 := Lib.hid (fun w => ahead_any ((b.drop 3).take 30) w (by rw [List.length_take]; omega))
  have A1 := Lib.hid (fun w => ahead_any ((b.drop 33).take 30) w (by rw [List.length_take]; omega))
  have A2 := Lib.hid (fun w => ahead_any ((b.drop 63).take 30) w (by rw [List.length_take]; omega))
  have A3 := Lib.hid (fun w => ahead_any ((b.drop 93).take 4) w (by rw [List.length_take]; omega))
  have A4 := Lib.hid (fun w => ahead_any ((b.drop 97).take 30) w (by rw [List.length_take]; omega))
  have A5 := Lib.hid (fun w => ahead_any (((b.drop 97).take 30).take 28) w (by rw [List.length_take]; omega))
  have HPT := Lib.hid (show parseT b = if b.getD 125 0 = 0 ∧ b.getD 126 0 ≠ 0 then ⟨cut0 ((b.drop 3).take 30), cut0 ((b.drop 33).take 30), cut0 ((b.drop 63).take 30), cut0 ((b.drop 93).take 4), cut0 (((b.drop 97).take 30).take 28), b.getD 126 0, b.getD 127 0⟩ else ⟨cut0 ((b.drop 3).take 30), cut0 ((b.drop 33).take 30), cut0 ((b.drop 63).take 30), cut0 ((b.drop 93).take 4), cut0 ((b.drop 97).take 30), 0, b.getD 127 0⟩ from rfl)
  rw [e28, e29] at HPT
  clear e28 e29
  have hb127 : 127 < b.length := by omega
  generalize (b.drop 97).take 30 = q4 at *
  generalize (b.drop 3).take 30 = q0 at *
  generalize (b.drop 33).take 30 = q1 at *
  generalize (b.drop 63).take 30 = q2 at *
  generalize (b.drop 93).take 4 = q3 at *
  have h28 : 28 < q4.length := by omega
  have h29 : 29 < q4.length := by omega
  have h28i : (28 : Int) < q4.length := by omega
  have h29i : (29 : Int) < q4.length := by omega
  have h28l : (28 : Int) ≤ q4.length := by omega
  have h28m : 28 ≤ q4.length := by omega
  have h127i : (127 : Int) < b.length := by omega
  have hx28 : q4[28]'h28 = q4.getD 28 0 := by simp [List.getD_eq_getElem?_getD, h28]
  have hx29 : q4[29]'h29 = q4.getD 29 0 := by simp [List.getD_eq_getElem?_getD, h29]
  have hx127 : b[127]'hb127 = b.getD 127 0 := by simp [List.getD_eq_getElem?_getD, hb127]
  generalize q4.getD 28 0 = x28 at *
  generalize q4.getD 29 0 = x29 at *
  generalize b.getD 127 0 = x127 at *
  clear hq4 h1 t1
  have p0 := cell_at (j := 0) P2.out; have p1 := cell_at (j := 1) P2.out; have p2 := cell_at (j := 2) P2.out; have p3 := cell_at (j := 3) P2.out; have p4 := cell_at (j := 4) P2.out; simp only [List.getElem?_toArray, List.getElem?_cons_zero, List.getElem?_cons_succ] at p0 p1 p2 p3 p4
  have t0 := cell_at (j := 0) T2.out; have t1 := cell_at (j := 1) T2.out; have t2 := cell_at (j := 2) T2.out; have t3 := cell_at (j := 3) T2.out; have t4 := cell_at (j := 4) T2.out; have t5 := cell_at (j := 5) T2.out; have t6 := cell_at (j := 6) T2.out; have tf0 := free_at (j := 0) T2.out; have tf1 := free_at (j := 1) T2.out; have tf2 := free_at (j := 2) T2.out; have tf3 := free_at (j := 3) T2.out; have tf4 := free_at (j := 4) T2.out; have tf5 := free_at (j := 5) T2.out; have tf6 := free_at (j := 6) T2.out; simp only [List.getElem?_toArray, List.getElem?_cons_zero, List.getElem?_cons_succ] at t0 t1 t2 t3 t4 t5 t6
  have r0 := cell_at (j := 0) R2.out; have r1 := cell_at (j := 1) R2.out; have r2 := cell_at (j := 2) R2.out; have r3 := cell_at (j := 3) R2.out; have r4 := cell_at (j := 4) R2.out; have r5 := cell_at (j := 5) R2.out; have r6 := cell_at (j := 6) R2.out; have rf0 := free_at (j := 0) R2.out; have rf1 := free_at (j := 1) R2.out; have rf2 := free_at (j := 2) R2.out; have rf3 := free_at (j := 3) R2.out; have rf4 := free_at (j := 4) R2.out; have rf5 := free_at (j := 5) R2.out; have rf6 := free_at (j := 6) R2.out; simp only [List.getElem?_toArray, List.getElem?_cons_zero, List.getElem?_cons_succ] at r0 r1 r2 r3 r4 r5 r6
  unfold ParseSays
  by_cases hc : x28 = 0 ∧ x29 ≠ 0
  · have hp := HPT.out
    rw [if_pos hc] at hp
    have HP := Lib.hid hp
    have u1 : (((x28.toNat : Nat) : Int) == 0) = true := by rw [hc.1]; rfl
    have u2 : (((x29.toNat : Nat) : Int) != 0) = true := by
      simp
      intro e
      apply hc.2
      rw [u8_eq]
      exact e
    clear hp HPT hc
    go_wp2_with (first | (go_at_call 54; first | (with_reducible refine (A0.out _).mono ?_; rintro e w5 ⟨rfl, rfl⟩) | (with_reducible refine (A1.out _).mono ?_; rintro e w5 ⟨rfl, rfl⟩) | (with_reducible refine (A2.out _).mono ?_; rintro e w5 ⟨rfl, rfl⟩) | (with_reducible refine (A3.out _).mono ?_; rintro e w5 ⟨rfl, rfl⟩) | (with_reducible refine (A5.out _).mono ?_; rintro e w5 ⟨rfl, rfl⟩)))
    refine end_cell_tmp rfl rfl rfl (store7t (C := #[.string ⟨#[]⟩, .string ⟨#[]⟩, .string ⟨#[]⟩, .string ⟨#[]⟩, .string ⟨#[]⟩, .int .u8 0, .int .u8 0]) (e := 25) (by rw [heap_set_other _ (by omega), heap_set_other _ (by omega), heap_set_other _ (by omega), heap_set_other _ (by omega), heap_set_other _ (by omega), heap_set_other _ (by omega), heap_set_other _ (by omega)]; exact R2.out) rfl) Try.underlying25 rfl (by kernel_rfl) ⟨by rw [HP.out]; rfl, ?_⟩
    rw [HR.out]
    exact ((((((((((((((K2.out.setCell hR1 _).setCell hR1 _).setCell hR1 _).setCell hR1 _).setCell hR1 _).setCell hR1 _).setCell hR1 _).setCell (Nat.le_refl _) _).setCell (Nat.le_refl _) _).setCell (Nat.le_refl _) _).setCell (Nat.le_refl _) _).setCell (Nat.le_refl _) _).setCell (Nat.le_refl _) _).setCell (Nat.le_refl _) _)
  · have hp := HPT.out
    rw [if_neg hc] at hp
    have HP := Lib.hid hp
    clear hp HPT
    by_cases hc0 : x28 = 0
    · have hc1 : x29 = 0 := Decidable.byContradiction fun h => hc ⟨hc0, h⟩
      have u1 : (((x28.toNat : Nat) : Int) == 0) = true := by rw [hc0]; rfl
      have u2 : (((x29.toNat : Nat) : Int) != 0) = false := by rw [hc1]; rfl
      clear hc hc0 hc1
      go_wp2_with (first | (go_at_call 54; first | (with_reducible refine (A0.out _).mono ?_; rintro e w5 ⟨rfl, rfl⟩) | (with_reducible refine (A1.out _).mono ?_; rintro e w5 ⟨rfl, rfl⟩) | (with_reducible refine (A2.out _).mono ?_; rintro e w5 ⟨rfl, rfl⟩) | (with_reducible refine (A3.out _).mono ?_; rintro e w5 ⟨rfl, rfl⟩) | (with_reducible refine (A4.out _).mono ?_; rintro e w5 ⟨rfl, rfl⟩)))
      refine end_cell_tmp rfl rfl rfl (store7t (C := #[.string ⟨#[]⟩, .string ⟨#[]⟩, .string ⟨#[]⟩, .string ⟨#[]⟩, .string ⟨#[]⟩, .int .u8 0, .int .u8 0]) (e := 25) (by rw [heap_set_other _ (by omega), heap_set_other _ (by omega), heap_set_other _ (by omega), heap_set_other _ (by omega), heap_set_other _ (by omega), heap_set_other _ (by omega)]; exact R2.out) rfl) Try.underlying25 rfl (by kernel_rfl) ⟨by rw [HP.out]; rfl, ?_⟩
      rw [HR.out]
      exact (((((((((((((K2.out.setCell hR1 _).setCell hR1 _).setCell hR1 _).setCell hR1 _).setCell hR1 _).setCell hR1 _).setCell (Nat.le_refl _) _).setCell (Nat.le_refl _) _).setCell (Nat.le_refl _) _).setCell (Nat.le_refl _) _).setCell (Nat.le_refl _) _).setCell (Nat.le_refl _) _).setCell (Nat.le_refl _) _)
    · have u1 : (((x28.toNat : Nat) : Int) == 0) = false := by
        simp
        intro e
        apply hc0
        rw [u8_eq]
        exact e
      clear hc hc0
      go_wp2_with (first | (go_at_call 54; first | (with_reducible refine (A0.out _).mono ?_; rintro e w5 ⟨rfl, rfl⟩) | (with_reducible refine (A1.out _).mono ?_; rintro e w5 ⟨rfl, rfl⟩) | (with_reducible refine (A2.out _).mono ?_; rintro e w5 ⟨rfl, rfl⟩) | (with_reducible refine (A3.out _).mono ?_; rintro e w5 ⟨rfl, rfl⟩) | (with_reducible refine (A4.out _).mono ?_; rintro e w5 ⟨rfl, rfl⟩)))
      refine end_cell_tmp rfl rfl rfl (store7t (C := #[.string ⟨#[]⟩, .string ⟨#[]⟩, .string ⟨#[]⟩, .string ⟨#[]⟩, .string ⟨#[]⟩, .int .u8 0, .int .u8 0]) (e := 25) (by rw [heap_set_other _ (by omega), heap_set_other _ (by omega), heap_set_other _ (by omega), heap_set_other _ (by omega), heap_set_other _ (by omega), heap_set_other _ (by omega)]; exact R2.out) rfl) Try.underlying25 rfl (by kernel_rfl) ⟨by rw [HP.out]; rfl, ?_⟩
      rw [HR.out]
      exact (((((((((((((K2.out.setCell hR1 _).setCell hR1 _).setCell hR1 _).setCell hR1 _).setCell hR1 _).setCell hR1 _).setCell (Nat.le_refl _) _).setCell (Nat.le_refl _) _).setCell (Nat.le_refl _) _).setCell (Nat.le_refl _) _).setCell (Nat.le_refl _) _).setCell (Nat.le_refl _) _).setCell (Nat.le_refl _) _)

def ParseIs (b : List UInt8) : Bool := b.length == 128 && ([84, 65, 71] : List UInt8).isPrefixOf b
def parsed (b : List UInt8) : Tl := if ParseIs b = true then parseT b else zeroT
theorem tparse_any (b : List UInt8) (w : World) : Calls Try.prog 15 #[.string ⟨b.toArray⟩] w (ParseSays (parsed b) (ParseIs b) w) := by
  unfold parsed ParseIs
  by_cases h1 : b.length = 128
  · rcases h2 : ([84, 65, 71] : List UInt8).isPrefixOf b with _ | _
    · rw [h1]
      exact tparse_no b w (.inr h2)
    · rw [h1]
      exact tparse_yes b w h1 h2
  · have : (b.length == 128) = false := by simpa using h1
    rw [this]
    exact tparse_no b w (.inl h1)

def SplitSays (x y : List UInt8) (w : World) (e : Ending) (w' : World) : Prop := e = .returned (.tuple #[.string ⟨x.toArray⟩, .string ⟨y.toArray⟩]) ∧ Below w.heap.size w w'
set_option maxHeartbeats 1000000 in
set_option maxRecDepth 100000 in
theorem split_no (b : List UInt8) (w : World) (hl : b.length ≤ 1000000000) (h : b.length < 128 ∨ ([84, 65, 71] : List UInt8).isPrefixOf (b.drop (b.length - 128)) = false) : Calls Try.prog 18 #[.string ⟨b.toArray⟩] w (SplitSays b [] w) := by
  unfold SplitSays
  by_cases h1 : b.length < 128
  · have t1 : (b.length : Int) < 128 := by omega
    clear h
    go_enter Try.func18, Try.ntmps18
    go_wp2
    go_ret2
    exact ⟨rfl, Below.refl _ _⟩
  · have h2 := h.resolve_left h1
    have PX := Lib.hid (fun w => prefix_any (b.drop (b.length - 128)) [84, 65, 71] w)
    rw [h2] at PX
    have t1 : ¬ (b.length : Int) < 128 := by omega
    have t2 : (0 : Int) ≤ (b.length : Int) - 128 := by omega
    have t3 : (b.length : Int) - 128 ≤ b.length := by omega
    have t4 : ((b.length : Int) - 128).toNat = b.length - 128 := by omega
    have ht : List.take (b.length - (b.length - 128)) (List.drop (b.length - 128) b) = List.drop (b.length - 128) b := List.take_of_length_le (by rw [List.length_drop]; omega)
    clear h h2
    go_enter Try.func18, Try.ntmps18
    go_wp2_with (go_at_call 52; (refine (PX.out _).mono ?_); rintro e w1 ⟨rfl, rfl⟩)
    go_ret2
    exact ⟨rfl, Below.refl _ _⟩
set_option maxHeartbeats 1000000 in
set_option maxRecDepth 100000 in
theorem split_yes (b : List UInt8) (w : World) (hl : b.length ≤ 1000000000) (h1 : 128 ≤ b.length) (h2 : ([84, 65, 71] : List UInt8).isPrefixOf (b.drop (b.length - 128)) = true) : Calls Try.prog 18 #[.string ⟨b.toArray⟩] w (SplitSays (b.take (b.length - 128)) (b.drop (b.length - 128)) w) := by
  unfold SplitSays
  have PX := Lib.hid (fun w => prefix_any (b.drop (b.length - 128)) [84, 65, 71] w)
  rw [h2] at PX
  have t1 : ¬ (b.length : Int) < 128 := by omega
  have t2 : (0 : Int) ≤ (b.length : Int) - 128 := by omega
  have t3 : (b.length : Int) - 128 ≤ b.length := by omega
  have t4 : ((b.length : Int) - 128).toNat = b.length - 128 := by omega
  have ht : List.take (b.length - (b.length - 128)) (List.drop (b.length - 128) b) = List.drop (b.length - 128) b := List.take_of_length_le (by rw [List.length_drop]; omega)
  clear h2
  go_enter Try.func18, Try.ntmps18
  go_upto_region 6 with (go_at_call 52; (refine (PX.out _).mono ?_); rintro e w1 ⟨rfl, rfl⟩)
  go_quiet (fail)
  go_wp2
  go_ret2
  exact ⟨rfl, rfl, rfl, rfl, Nat.le_refl _, fun _ _ => rfl⟩
end Go.Proofs.Ytlgkbkbghheokaa
