/- Layer 9 (charset): the charsets' names, walked. -/
import Derived.Test.YtffhmjlojmoomaaGreatDoorZU31
import Derived.Test.YtffhmjlojmoomaaGreatDoorZB2
import Derived.Test.YtffhmjlojmoomaaGreatDoorZConv

namespace Go.Proofs.YtffhmjlojmoomaaGreatDoor
open Go.RowKit
set_option linter.unusedVariables false
set_option linter.unusedSimpArgs false

def nmL : List (List (List UInt8)) := [
  [[108, 97, 116, 105, 110, 49], [105, 115, 111, 45, 56, 56, 53, 57, 45, 49], [108, 97, 116, 105, 110, 45, 49]],
  [[107, 111, 105, 56, 45, 114], [107, 111, 105, 56, 114], []],
  [[107, 111, 105, 56, 45, 117], [107, 111, 105, 56, 117], []],
  [[99, 112, 56, 54, 54], [105, 98, 109, 56, 54, 54], []],
  [[99, 112, 57, 52, 57], [101, 117, 99, 45, 107, 114], [117, 104, 99]],
  [[106, 111, 104, 97, 98], [99, 112, 49, 51, 54, 49], []],
  [[98, 105, 103, 53, 45, 104, 107, 115, 99, 115], [98, 105, 103, 53], []],
  [[117, 116, 102, 45, 56], [117, 116, 102, 56], []],
  [[117, 116, 102, 45, 49, 54, 108, 101], [117, 116, 102, 49, 54, 108, 101], []],
  [[117, 116, 102, 45, 49, 54, 98, 101], [117, 116, 102, 49, 54, 98, 101], []]]
def stV (l : List UInt8) : Value := .string ⟨l.toArray⟩
def nmR (r : List (List UInt8)) : List Value := r.map stV
set_option maxHeartbeats 4000000 in
set_option maxRecDepth 100000 in
theorem cnames_any (w : World) : Calls Tryz.prog 31 #[] w fun e w' => e = .returned (.agg (nmL.map nmR).flatten.toArray) ∧ Below w.heap.size w w' := by
  have hB := (Below.refl w.heap.size w)
  go_enter Tryz.func31, Tryz.ntmps31
  go_upto_region 1 with (fail)
  iterate 35 go_step
  refine wp_store_new (by rfl) (by rfl) (by rfl) (by rfl) (by rfl) (by kernel_rfl) (by rfl) (by simp [Value.oneCell']) ?_
  go_wp2
  exact end_cell rfl rfl rfl (at_a0 w _ _) Tryz.underlying54 rfl (by kernel_rfl) ⟨by kernel_rfl, hB.alloc (Nat.le_refl _) _⟩
set_option maxHeartbeats 4000000 in
set_option maxRecDepth 100000 in
theorem csmall_utf (w : World) : Calls Tryz.prog 30 #[.string ⟨([85, 84, 70, 56] : List UInt8).toArray⟩] w fun e w' => e = .returned (.string ⟨([117, 116, 102, 56] : List UInt8).toArray⟩) ∧ Below w.heap.size w w' := by
  have hcv := conv_bytes (P := Tryz.prog) w 9 35 5 [85, 84, 70, 56] Tryz.underlying9 Tryz.underlying35 Tryz.underlying5
  obtain ⟨hV, hVs, hVc⟩ := conv_facts w 5 [85, 84, 70, 56]
  have K := Lib.hid hV
  obtain ⟨c0, f0⟩ := hVc 0 (by decide)
  obtain ⟨c1, f1⟩ := hVc 1 (by decide)
  obtain ⟨c2, f2⟩ := hVc 2 (by decide)
  obtain ⟨c3, f3⟩ := hVc 3 (by decide)
  clear hV hVc
  go_enter Tryz.func30, Tryz.ntmps30
  simp only [List.length_cons, List.length_nil] at hcv
  generalize Lib.bytesWorld w 5 ⟨([85, 84, 70, 56] : List UInt8).toArray⟩ = V at *
  generalize grownCap w (0 + 1 + 1 + 1 + 1) 0 5 = cap at *
  have hbV : w.heap.size < V.heap.size := by omega
  have HB := Lib.hid hbV
  clear hVs hbV
  simp only [List.getElem_cons_zero, List.getElem_cons_succ] at c0 c1 c2 c3
  have d0 : V.cell? ⟨w.heap.size, 0, none⟩ = some (.int .u8 85) := c0
  have d1 : V.cell? ⟨w.heap.size, 1, none⟩ = some (.int .u8 84) := c1
  have d2 : V.cell? ⟨w.heap.size, 2, none⟩ = some (.int .u8 70) := c2
  have d3 : V.cell? ⟨w.heap.size, 3, none⟩ = some (.int .u8 56) := c3
  clear c0 c1 c2 c3
  have HCV : (convert 9 35 (.string ⟨([85, 84, 70, 56] : List UInt8).toArray⟩)).run Tryz.prog w = .ok (.slice (some ⟨w.heap.size, 0, none⟩) 4 cap) V := hcv
  clear hcv
  go_upto_region 2 with (fail)
  clear HCV
  have K2 : Hid (Below w.heap.size w (((V.setCell ⟨w.heap.size, 0, none⟩ (.int .u8 117)).setCell ⟨w.heap.size, 1, none⟩ (.int .u8 116)).setCell ⟨w.heap.size, 2, none⟩ (.int .u8 102))) := Lib.hid (((K.out.setCell (p := ⟨w.heap.size, 0, none⟩) (Nat.le_refl _) _).setCell (p := ⟨w.heap.size, 1, none⟩) (Nat.le_refl _) _).setCell (p := ⟨w.heap.size, 2, none⟩) (Nat.le_refl _) _)
  have so : ∀ (W : World) (b i j : Nat) (v x : Value), i ≠ j → W.cell? ⟨b, j, none⟩ = some x → (W.setCell ⟨b, i, none⟩ v).cell? ⟨b, j, none⟩ = some x := fun W b i j v x h hx => (World.cell?_setCell_other _ _ _ _ (by intro e; injection e with _ e2; exact h e2)).trans hx
  have e0 := so _ _ 2 0 (.int .u8 102) _ (by decide) (so _ _ 1 0 (.int .u8 116) _ (by decide) (World.cell?_setCell_same V _ (.int .u8 117) d0))
  have e1 := so _ _ 2 1 (.int .u8 102) _ (by decide) (World.cell?_setCell_same (V.setCell ⟨w.heap.size, 0, none⟩ (.int .u8 117)) _ (.int .u8 116) (so _ _ 0 1 _ _ (by decide) d1))
  have e2 := World.cell?_setCell_same ((V.setCell ⟨w.heap.size, 0, none⟩ (.int .u8 117)).setCell ⟨w.heap.size, 1, none⟩ (.int .u8 116)) _ (.int .u8 102) (so _ _ 1 2 _ _ (by decide) (so _ _ 0 2 _ _ (by decide) d2))
  have e3 := so _ _ 2 3 (.int .u8 102) _ (by decide) (so _ _ 1 3 (.int .u8 116) _ (by decide) (so _ _ 0 3 (.int .u8 117) _ (by decide) d3))
  have hcb : (convert 35 9 (.slice (some ⟨w.heap.size, 0, none⟩) 4 cap)).run Tryz.prog (((V.setCell ⟨w.heap.size, 0, none⟩ (.int .u8 117)).setCell ⟨w.heap.size, 1, none⟩ (.int .u8 116)).setCell ⟨w.heap.size, 2, none⟩ (.int .u8 102)) = .ok (.string ⟨([117, 116, 102, 56] : List UInt8).toArray⟩) (((V.setCell ⟨w.heap.size, 0, none⟩ (.int .u8 117)).setCell ⟨w.heap.size, 1, none⟩ (.int .u8 116)).setCell ⟨w.heap.size, 2, none⟩ (.int .u8 102)) := by
    refine run_convert_bytes_back (P := Tryz.prog) _ 35 9 5 ⟨w.heap.size, 0, none⟩ cap [117, 116, 102, 56] Tryz.underlying35 Tryz.underlying5 Tryz.underlying9 ?_
    intro j hj
    have hj4 : j < 4 := hj
    obtain rfl | rfl | rfl | rfl : j = 0 ∨ j = 1 ∨ j = 2 ∨ j = 3 := by omega
    · rw [Addr.add_lit]; exact e0
    · rw [Addr.add_lit]; exact e1
    · rw [Addr.add_lit]; exact e2
    · rw [Addr.add_lit]; exact e3
  clear e0 e1 e2 e3
  go_wp2
  refine wp_loop_rounds 5 ?_
  rw [rounds_succ]
  go_wp2
  rw [rounds_succ]
  go_wp2
  rw [rounds_succ]
  go_wp2
  rw [rounds_succ]
  go_wp2
  rw [rounds_succ]
  go_wp2
  go_ret
  exact ⟨rfl, K2.out⟩
theorem idx3 (a b c : Value) (w : World) : (Instr.index 53 (.agg #[a, b, c]) (.int .i64 0)).run Tryz.prog w = .ok a w ∧ (Instr.index 53 (.agg #[a, b, c]) (.int .i64 1)).run Tryz.prog w = .ok b w ∧ (Instr.index 53 (.agg #[a, b, c]) (.int .i64 2)).run Tryz.prog w = .ok c w := by
  have hag : ∀ w, (isAgg 9).run Tryz.prog w = .ok false w := fun w => by kernel_rfl
  have hsz : ∀ w, (sizeOf 9).run Tryz.prog w = .ok 1 w := fun w => by kernel_rfl
  refine ⟨?_, ?_, ?_⟩ <;> simp [Instr.index, asIntOf, run_underlying Tryz.underlying53, part, hag, hsz, go_sem, Result.andThen]
/-- utf8 -/
def u8L : List UInt8 := [117, 116, 102, 56]
theorem nm_not : ∀ k : Fin 7, ∀ s ∈ nmL.getD k.val [], s ≠ u8L := by decide +kernel
set_option maxHeartbeats 4000000 in
set_option maxRecDepth 100000 in
theorem cnamed_utf (w : World) : Calls Tryz.prog 11 #[.string ⟨([85, 84, 70, 56] : List UInt8).toArray⟩] w fun e w' => e = .returned (.tuple #[.int .i64 7, .bool true]) ∧ Below w.heap.size w w' := by
  have SM := Lib.hid (fun w => csmall_utf w)
  have NM := Lib.hid (fun w => cnames_any w)
  have K := Lib.hid (Below.refl w.heap.size w)
  have HIX : Hid (∀ (k : Nat) (hk : k < nmL.length) w, (Instr.index 54 (.agg (nmL.map nmR).flatten.toArray) (.int .i64 k)).run Tryz.prog w = .ok (.agg (nmR nmL[k]).toArray) w) := Lib.hid (fun k hk w => by
    have h := run_index_rows (P := Tryz.prog) (T := 54) (e := 53) (n := 10) (sz := 3) (L := nmL.map nmR) (by decide +kernel) (by decide +kernel) Tryz.underlying54 (fun w => by kernel_rfl) (fun w => by kernel_rfl) k (by rw [List.length_map]; exact hk) w
    rw [List.getElem_map] at h
    exact h)
  have HR : Hid (∀ k, k < 7 → ∃ (hk : k < nmL.length) (s0 s1 s2 : List UInt8), nmR nmL[k] = [.string ⟨s0.toArray⟩, .string ⟨s1.toArray⟩, .string ⟨s2.toArray⟩] ∧ s0 ≠ u8L ∧ s1 ≠ u8L ∧ s2 ≠ u8L) := Lib.hid (fun k hk => by
    have : ∀ k : Fin 7, ∃ (hk : k.val < nmL.length), nmL[k.val].length = 3 := by decide +kernel
    obtain ⟨hk1, hl⟩ := this ⟨k, hk⟩
    have hn := nm_not ⟨k, hk⟩
    simp only at hk1 hl hn
    rw [List.getD_eq_getElem?_getD, List.getElem?_eq_getElem hk1] at hn
    simp only [Option.getD_some] at hn
    refine ⟨hk1, ?_⟩
    generalize nmL[k] = r at *
    match r, hl, hn with
    | [s0, s1, s2], _, hn => exact ⟨s0, s1, s2, rfl, hn s0 (by simp), hn s1 (by simp), hn s2 (by simp)⟩)
  have H7 : Hid (∀ w, (Instr.index 54 (.agg (nmL.map nmR).flatten.toArray) (.int .i64 7)).run Tryz.prog w = .ok (.agg #[.string ⟨([117, 116, 102, 45, 56] : List UInt8).toArray⟩, .string ⟨u8L.toArray⟩, .string ⟨#[]⟩]) w) := Lib.hid (fun w => HIX.out 7 (by decide) w)
  have hE : ([85, 84, 70, 56] : List UInt8).isEmpty = false := rfl
  go_enter Tryz.func11, Tryz.ntmps11
  go_upto_region 5 with (first | (go_at_call 30; (with_reducible refine (SM.out _).mono ?_); rintro e w1 ⟨rfl, hb1⟩; replace K := Lib.hid (nextB K.out hb1); clear hb1) | (go_at_call 31; (with_reducible refine (NM.out _).mono ?_); rintro e w2 ⟨rfl, hb1⟩; replace K := Lib.hid (nextB K.out hb1); clear hb1))
  generalize (Value.agg (nmL.map nmR).flatten.toArray) = arr at *
  clear SM NM hE
  go_loopw [13] (fun i wr => ∃ k : Nat, k ≤ 7 ∧ i = .int .i64 k ∧ Hid (Below w.heap.size w wr)) (fun i _ => 8 - (intOf i).toNat)
  case atStart => exact ⟨0, by omega, rfl, K⟩
  case round =>
    clear K
    obtain ⟨k, hk, rfl, K⟩ := hrel
    by_cases h7 : k < 7
    · have g3 : (k : Int) < 10 := by omega
      obtain ⟨hkl, s0, s1, s2, hr, n0, n1, n2⟩ := HR.out k h7
      have hix := HIX.out k hkl wr
      rw [hr] at hix
      have q0 : (s0 == [117, 116, 102, 56]) = false ∧ (s0 = [117, 116, 102, 56]) = False := by
        have : s0 ≠ [117, 116, 102, 56] := n0
        simp [this]
      have q1 : (s1 == [117, 116, 102, 56]) = false ∧ (s1 = [117, 116, 102, 56]) = False := by
        have : s1 ≠ [117, 116, 102, 56] := n1
        simp [this]
      have q2 : (s2 == [117, 116, 102, 56]) = false ∧ (s2 = [117, 116, 102, 56]) = False := by
        have : s2 ≠ [117, 116, 102, 56] := n2
        simp [this]
      obtain ⟨q0, q0'⟩ := q0
      obtain ⟨q1, q1'⟩ := q1
      obtain ⟨q2, q2'⟩ := q2
      clear hr n0 n1 n2 hkl
      go_upto_region 7 with (fail)
      have P := Lib.hid (at_a0 wr #[.string ⟨s0.toArray⟩, .string ⟨s1.toArray⟩, .string ⟨s2.toArray⟩] 53)
      replace K := Lib.hid (nextB K.out ((Below.refl wr.heap.size wr).alloc (Nat.le_refl _) (.cells #[.string ⟨s0.toArray⟩, .string ⟨s1.toArray⟩, .string ⟨s2.toArray⟩] 53)))
      clear hix
      generalize wr.alloc (.cells #[.string ⟨s0.toArray⟩, .string ⟨s1.toArray⟩, .string ⟨s2.toArray⟩] 53) = w3 at *
      generalize wr.heap.size = pb at *
      obtain ⟨y0, y1, y2⟩ := cells3 (P.out)
      go_upto_region 8 with (fail)
      obtain ⟨i0, i1, i2⟩ := idx3 (.string ⟨s0.toArray⟩) (.string ⟨s1.toArray⟩) (.string ⟨s2.toArray⟩) w3
      refine wp_loop_rounds 4 ?_
      rw [rounds_succ]
      go_wp2
      rw [rounds_succ]
      go_wp2
      rw [rounds_succ]
      go_wp2
      rw [rounds_succ]
      go_wp2
      exact ⟨⟨k + 1, by omega, by simp, K⟩, by simp [intOf]; omega⟩
    · obtain rfl : k = 7 := by omega
      have hix := H7.out wr
      unfold u8L at hix
      go_upto_region 7 with (fail)
      have P := Lib.hid (at_a0 wr #[.string ⟨([117, 116, 102, 45, 56] : List UInt8).toArray⟩, .string ⟨([117, 116, 102, 56] : List UInt8).toArray⟩, .string ⟨#[]⟩] 53)
      replace K := Lib.hid (nextB K.out ((Below.refl wr.heap.size wr).alloc (Nat.le_refl _) (.cells #[.string ⟨([117, 116, 102, 45, 56] : List UInt8).toArray⟩, .string ⟨([117, 116, 102, 56] : List UInt8).toArray⟩, .string ⟨#[]⟩] 53)))
      clear hix
      generalize wr.alloc (.cells #[.string ⟨([117, 116, 102, 45, 56] : List UInt8).toArray⟩, .string ⟨([117, 116, 102, 56] : List UInt8).toArray⟩, .string ⟨#[]⟩] 53) = w3 at *
      generalize wr.heap.size = pb at *
      obtain ⟨y0, y1, y2⟩ := cells3 (P.out)
      go_upto_region 8 with (fail)
      obtain ⟨i0, i1, i2⟩ := idx3 (.string ⟨([117, 116, 102, 45, 56] : List UInt8).toArray⟩) (.string ⟨([117, 116, 102, 56] : List UInt8).toArray⟩) (.string ⟨#[]⟩) w3
      refine wp_loop_rounds 2 ?_
      rw [rounds_succ]
      go_wp2
      rw [rounds_succ]
      go_wp2
      go_ret2
      exact ⟨rfl, K.out⟩
end Go.Proofs.YtffhmjlojmoomaaGreatDoor
