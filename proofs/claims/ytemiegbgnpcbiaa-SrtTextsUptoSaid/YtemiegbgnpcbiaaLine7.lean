/- The walk of the statement LineCuts. -/
import Derived.Test.YtemiegbgnpcbiaaLine6
namespace Go.Proofs.Ytemiegbgnpcbiaa
open Go.RowKit
set_option linter.unusedVariables false

theorem lnAll_take (L : List Ln) (k : Nat) (h : k < L.length) : lnAll (L.take (k + 1)) = lnAll (L.take k) ++ (L[k].t ++ L[k].e) := by
  unfold lnAll
  rw [List.take_succ_eq_append_getElem h, List.map_append, List.flatten_append]
  simp [-List.flatten_append]
theorem lnAll_le (L : List Ln) (k : Nat) : (lnAll (L.take k)).length ≤ (lnAll L).length := by
  have e : lnAll L = lnAll (L.take k) ++ lnAll (L.drop k) := by
    unfold lnAll
    rw [← List.flatten_append, ← List.map_append, List.take_append_drop]
  rw [e, List.length_append]; omega
theorem lines_count : ∀ (f : Nat) (l : List UInt8) (a : Nat), l.length ≤ f → (linesOf l a).length ≤ l.length
  | 0, l, a, h => by
    obtain rfl : l = [] := List.eq_nil_of_length_eq_zero (by omega)
    simp [linesOf_nil]
  | f + 1, l, a, h => by
    by_cases hl : l = []
    · subst hl; simp [linesOf_nil]
    · have hp := line_pos l hl
      have h2 : 0 < l.length := List.length_pos_iff.2 hl
      rw [linesOf_cons l a hl, List.length_cons]
      have := lines_count f (l.drop ((lineAt l).length + (endOf (l.drop (lineAt l).length)).length)) (a + (lineAt l).length + (endOf (l.drop (lineAt l).length)).length) (by rw [List.length_drop]; omega)
      rw [List.length_drop] at this
      omega
theorem lines_cells {w : World} {a : Option Addr} {n : Nat} {L : List Ln} (h : RecsAt w a n 3 (L.map lnR)) (k : Nat) (hk : k < L.length) : ∃ b off, a = some ⟨b, off, none⟩ ∧ b < w.heap.size ∧
    w.cell? ⟨b, off + k * 3, none⟩ = some (.string ⟨L[k].t.toArray⟩) ∧ w.cell? ⟨b, off + k * 3 + 1, none⟩ = some (.string ⟨L[k].e.toArray⟩) ∧ w.cell? ⟨b, off + k * 3 + 2, none⟩ = some (.int .i64 L[k].a) := by
  have hn := h.1
  rcases h.2.2 with h0 | ⟨b, off, ha, hb, hc⟩
  · simp at hn; omega
  · have hk' : k < (L.map lnR).length := by simpa using hk
    have e : (L.map lnR)[k] = lnR L[k] := by simp
    have k0 := hc k hk' 0 (by decide)
    have k1 := hc k hk' 1 (by decide)
    have k2 := hc k hk' 2 (by decide)
    rw [e] at k0 k1 k2
    exact ⟨b, off, ha, hb, k0, k1, k2⟩

theorem lines_at {w : World} {base e : Nat} {v : Value} {L : List Ln} (h : Recs w base e 3 v (L.map lnR)) : ∃ a cap, v = .slice a L.length cap ∧ RecsAt w a L.length 3 (L.map lnR) := by
  obtain ⟨a, cap, hv, _, hr⟩ := h.at
  rw [List.length_map] at hv hr
  exact ⟨a, cap, hv, hr⟩

set_option maxHeartbeats 4000000 in
set_option maxRecDepth 100000 in
theorem walk_LineCuts (t : List UInt8) (ht : t.length ≤ maxLen) (w : World) :
    Calls Try.prog 3 #[.string ⟨t.toArray⟩] w fun e w' => e = .returned (.bool true) ∧ Below w.heap.size w w' := by
  by_cases h1 : (2000 : Int) < t.length
  · go_enter Try.func3, Try.ntmps3
    go_wp2_with (go_at_call 10; refine (awake22' _).mono ?_; rintro e w1 ⟨rfl, hb1⟩)
    go_ret
    exact ⟨rfl, hb1⟩
  have C1 := Lib.hid (fun w => lines_any t w (by omega))
  have C2 := Lib.hid (fun w => rlines_any t w (by omega))
  obtain ⟨hall, hat⟩ := lines_ok t.length t 0 (Nat.le_refl _)
  have HALL := Lib.hid hall
  have HAT := Lib.hid hat
  have hcount := lines_count t.length t 0 (Nat.le_refl _)
  clear hall hat
  generalize linesOf t 0 = L at *
  have hnn : ((L.length : Int) != L.length) = false := by simp
  go_enter Try.func3, Try.ntmps3
  go_upto_region 7 with (first | (go_at_call 11; refine (C1.out _).mono ?_; rintro e w1 ⟨v1, rfl, hr1, hb1⟩; obtain ⟨a1, cap1, rfl, hv1⟩ := lines_at hr1; have HV1 := Lib.hid hv1; have HB1 := Lib.hid hb1; clear hr1 hb1 hv1) | (go_at_call 12; refine (C2.out _).mono ?_; rintro e w2 ⟨v2, rfl, hr2, hb2⟩; obtain ⟨a2, cap2, rfl, hv2⟩ := lines_at hr2; have HV2 := Lib.hid hv2; have HV3 := Lib.hid (HV1.out.below hb2); have HB2 := Lib.hid (nextB HB1.out hb2); clear hr2 hb2 hv2 HV1 HB1))
  clear C1 C2
  go_wp2
  go_loopw [5, 23] (fun z i wr => ∃ (k : Nat), k ≤ L.length ∧ i = .int .i64 k ∧ z = .string ⟨(lnAll (L.take k)).toArray⟩ ∧ Hid (RecsAt wr a1 L.length 3 (L.map lnR)) ∧ Hid (RecsAt wr a2 L.length 3 (L.map lnR)) ∧ Hid (Below w.heap.size w wr)) (fun _ i _ => L.length - (intOf i).toNat)
  case atStart => exact ⟨0, by omega, rfl, rfl, HV3, HV2, HB2⟩
  case round =>
    clear HV3 HV2 HB2
    obtain ⟨k, hk, rfl, rfl, HX, HY, HB⟩ := hrel
    by_cases hlt : k < L.length
    · have h0 : (k : Int) < L.length := by omega
      have HLT := Lib.hid (lnAll_take L k hlt)
      have hka := HAT.out k hlt
      have hbd := lnAll_le L (k + 1)
      rw [HALL.out, HLT.out, List.length_append, List.length_append] at hbd
      rw [Nat.zero_add] at hka
      obtain ⟨b1, o1, rfl, hb1, c0, c1, c2⟩ := lines_cells HX.out k hlt
      generalize hbox : Obj.cells #[Value.string ⟨L[k].t.toArray⟩, .string ⟨L[k].e.toArray⟩, .int .i64 L[k].a] 28 = box
      have hal : Below wr.heap.size wr (wr.alloc box) := (Below.refl _ _).alloc (Nat.le_refl _) _
      have HX2 := Lib.hid (HX.out.below hal)
      have HY2 := Lib.hid (HY.out.below hal)
      have HB2 := Lib.hid (nextB HB.out hal)
      obtain ⟨b2, o2, rfl, hb2, d0, d1, d2⟩ := lines_cells HY2.out k hlt
      have hbxc : (wr.alloc box).heap[wr.heap.size]? = some (.cells #[.string ⟨L[k].t.toArray⟩, .string ⟨L[k].e.toArray⟩, .int .i64 L[k].a] 28 (0, 0)) := by rw [← hbox]; exact at_a0 _ _ _
      have e0 := cell_at (j := 0) hbxc
      have e1 := cell_at (j := 1) hbxc
      have e2 := cell_at (j := 2) hbxc
      simp only [List.getElem?_toArray, List.getElem?_cons_zero, List.getElem?_cons_succ] at e0 e1 e2
      have hlen : ((L[k].a : Int) != (lnAll (L.take k)).length) = false := by rw [hka]; simp
      clear hka hbxc hal HX HY
      subst hbox
      go_upto_region 10 with (fail)
      generalize wr.alloc (.cells #[.string ⟨L[k].t.toArray⟩, .string ⟨L[k].e.toArray⟩, .int .i64 L[k].a] 28) = V at *
      generalize wr.heap.size = xb at *
      generalize L[k].t = a at *
      generalize L[k].e = b at *
      generalize L[k].a = na at *
      generalize lnAll (L.take k) = u at *
      go_quiet (fail)
      go_wp2
      refine ⟨⟨k + 1, by omega, by simp, by rw [HLT.out], HX2, HY2, Lib.hid (below_drewN HB2.out _)⟩, by simp [intOf]; omega⟩
    · have h0 : ¬ (k : Int) < L.length := by omega
      have e0 : L.take k = L := List.take_of_length_le (by omega)
      rw [e0, HALL.out]
      go_wp2_with (go_at_call 10; refine (awake22' _).mono ?_; rintro e w1 ⟨rfl, hb1⟩)
      go_ret
      exact ⟨rfl, nextB HB.out hb1⟩
end Go.Proofs.Ytemiegbgnpcbiaa
