/- Subtitles (srt): read, Parse, Count, walked. -/
import Derived.Test.YtemiegbgnpcbiaaSrt3
namespace Go.Proofs.Ytemiegbgnpcbiaa
open Go.RowKit
set_option linter.unusedVariables false

theorem end_tmp2_cell {P : Program} {fn : Func} {R : Ending → World → Prop} {a : Act} {w : World} {p u u2 : Tmp} {ty t : TypeId} {b : Nat} {C : Array Value} {d : TypeDesc}
    (h : fn.results = #[.tmp u, .tmp u2, .cell p ty]) (hd0 : a.defers = []) (hp : a.tmps.getD p undef = .pointer (some ⟨b, 0, none⟩)) (hg : w.heap[b]? = some (.cells C t (0, 0)))
    (hu : P.underlying ty = some d) (hd : (match d with | .struct _ | .array _ _ => true | _ => false) = true) (hi : (P.info? ty).map (·.size) = some C.size)
    (hR : R (.returned (.tuple #[a.tmps.getD u undef, a.tmps.getD u2 undef, .agg C])) w) : bodyPost P fn R .ret a w := by
  refine bodyPost_ret (v := .tuple #[a.tmps.getD u undef, a.tmps.getD u2 undef, .agg C]) ?_ hd0 hR
  have hp' : a.tmps[p]?.getD undef = .pointer (some ⟨b, 0, none⟩) := by simpa using hp
  simp only [results, h]
  simp [hp', asAddr, run_loadVar_row w b t ty C (0, 0) d hg hu hd hi]

set_option maxRecDepth 100000 in
theorem blocks_any (w : World) : Calls Try.prog 42 #[] w fun e w' =>
    e = .returned (.tuple #[.func (.func 52) #[] #[.pointer (some ⟨w.heap.size, 0, none⟩), .pointer (some ⟨w.heap.size + 1, 0, none⟩)], .func (.func 54) #[] #[.pointer (some ⟨w.heap.size, 0, none⟩), .pointer (some ⟨w.heap.size + 1, 0, none⟩)]]) ∧
    Boxes w' w.heap.size (w.heap.size + 1) 0 0 ∧ Below w.heap.size w w' := by
  go_enter Try.func42, Try.ntmps42
  go_wp2
  go_ret2
  exact ⟨rfl, ⟨at_a1 _ _ _ _, at_a2 _ _ _ _⟩, ((Below.refl _ _).alloc (Nat.le_refl _) _).alloc (by simp) _⟩

set_option maxRecDepth 100000 in
theorem stood_any (bs bc st cnt : Nat) (w : World) (h : Boxes w bs bc st cnt) : Calls Try.prog 54 #[.pointer (some ⟨bs, 0, none⟩), .pointer (some ⟨bc, 0, none⟩)] w fun e w' => e = .returned (.tuple #[.int .i64 st, .int .i64 cnt]) ∧ Below w.heap.size w w' := by
  have c0 := cell_at (j := 0) h.1
  have c1 := cell_at (j := 0) h.2
  simp only [List.getElem?_toArray, List.getElem?_cons_zero] at c0 c1
  go_enter Try.func54, Try.ntmps54
  go_wp2
  go_quiet (fail)
  go_wp2
  go_ret2
  exact ⟨rfl, below_drewN (Below.refl _ _) _⟩

theorem Recs.setAway {w : World} {base e size b j : Nat} {v : Value} {L : List (List Value)} (h : Recs w base e size v L) (hb : ∀ i, v.ownBlock = some i → i ≠ b) (u : Value) : Recs (w.setCell ⟨b, j, none⟩ u) base e size v L := by
  refine ⟨h.1, h.2.1, ?_⟩
  rcases h.2.2 with hn | ⟨g, cap, cur, hv, hbs, hg, rest⟩
  · exact .inl hn
  · refine .inr ⟨g, cap, cur, hv, hbs, (heap_set_other u (hb g ?_)).trans hg, rest⟩
    rw [hv]; rfl

def ReadSays (t : List UInt8) (w : World) (e : Ending) (w' : World) : Prop :=
  match readS t with
  | .error a => e = .returned (.tuple #[.slice none 0 0, .int .i64 0, .agg #[.int .i64 1, .int .i64 a]]) ∧ Below w.heap.size w w'
  | .ok (cnt, acc) => ∃ v, e = .returned (.tuple #[v, .int .i64 cnt, .agg #[.int .i64 0, .int .i64 0]]) ∧ Recs w' w.heap.size 34 3 v (acc.map pcR) ∧ Below w.heap.size w w'

set_option maxHeartbeats 2000000 in
set_option maxRecDepth 100000 in
theorem sread_any (t : List UInt8) (w : World) (ht : t.length ≤ 1000000) : Calls Try.prog 37 #[.string ⟨t.toArray⟩] w (ReadSays t w) := by
  have hw := fun w1 (h : Boxes w1 (w.heap.size + 1) (w.heap.size + 2) 0 0) => walk_any (w.heap.size + 1) (w.heap.size + 2) t w1 h (by omega) ht
  unfold WalkSays at hw
  have hB0 : Below w.heap.size w (w.alloc (.cells #[.int .i64 0, .int .i64 0] 42)) := (Below.refl _ _).alloc (Nat.le_refl _) _
  rcases hS : walkS (linesOf t 0) 0 0 [] with a | ⟨st, cnt, acc⟩
  · rw [hS] at hw
    simp only at hw
    have hr : readS t = .error a := by unfold readS; rw [hS]
    have HW := Lib.hid hw
    clear hw hS
    go_enter Try.func37, Try.ntmps37
    go_upto_region 3 with (first | (go_at_call 42; refine (blocks_any _).mono ?_; rintro e w1 ⟨rfl, hx1, hb1⟩; rw [show (w.alloc (.cells #[.int .i64 0, .int .i64 0] 42)).heap.size = w.heap.size + 1 by simp] at hx1 ⊢; have hf1 := block_below (at_a0 w _ _) hb1) | (go_at_call 43; refine (HW.out _ hx1).mono ?_; rintro e w2 ⟨rfl, h2⟩; have hf2 := block_two hf1 h2 (by omega) (by omega)))
    have hB2 : Below w.heap.size w w2 := (nextB hB0 hb1).trans (h2.below (by omega) (by omega) (nextB hB0 hb1).size)
    go_upto_region 4 with (go_at_call 29; refine (bad_any _ _ _).mono ?_; rintro e w3 ⟨rfl, hb3⟩; have he3 := block_below (at_a0 w2 (#[.int .i64 1, .int .i64 a]) 42) hb3; have hf3 := block_below ((heap_alloc_old w2 (.cells #[.int .i64 1, .int .i64 a] 42) (Array.getElem?_eq_some_iff.1 hf2).1).trans hf2) hb3; have c0 := cell_at (j := 0) he3; have c1 := cell_at (j := 1) he3; have d0 := cell_at (j := 0) hf3; have d1 := cell_at (j := 1) hf3; have f0 := free_at (j := 0) hf3; have f1 := free_at (j := 1) hf3; simp only [List.getElem?_toArray, List.getElem?_cons_zero, List.getElem?_cons_succ] at c0 c1 d0 d1; have hB3 := nextB (hB2.alloc hB2.size (.cells #[.int .i64 1, .int .i64 a] 42)) hb3)
    clear HW hx1 hb1 h2 hb3
    go_region
    go_wp2
    refine end_tmp2_cell rfl rfl rfl (show _ from store2 hf3 rfl) Try.underlying42 rfl (by kernel_rfl) ?_
    unfold ReadSays
    rw [hr]
    have hz := (hB3.setCell (p := ⟨w.heap.size, 0, none⟩) (Nat.le_refl _) (.int .i64 1)).setCell (p := ⟨w.heap.size, 1, none⟩) (Nat.le_refl _) (.int .i64 a)
    exact ⟨rfl, ⟨hz.os, hz.tape, hz.output, hz.size, hz.block⟩⟩
  · rw [hS] at hw
    simp only at hw
    have HW := Lib.hid hw
    have hr : readS t = if st = 1 then .error t.length else .ok (cnt, acc) := by unfold readS; rw [hS]
    clear hw hS
    go_enter Try.func37, Try.ntmps37
    go_upto_region 3 with (first | (go_at_call 42; refine (blocks_any _).mono ?_; rintro e w1 ⟨rfl, hx1, hb1⟩; rw [show (w.alloc (.cells #[.int .i64 0, .int .i64 0] 42)).heap.size = w.heap.size + 1 by simp] at hx1 ⊢; have hf1 := block_below (at_a0 w _ _) hb1) | (go_at_call 43; refine (HW.out _ hx1).mono ?_; rintro e w2 ⟨v2, rfl, hr2, hx2, h2⟩; have hf2 := block_two hf1 h2 (by omega) (by omega)))
    have hB1 := nextB hB0 hb1
    have hB2 : Below w.heap.size w w2 := hB1.trans (h2.below (by omega) (by omega) hB1.size)
    have HR2 := Lib.hid (hr2.base hB1.size)
    go_upto_region 5 with (go_at_call 29; refine (bad_any _ _ _).mono ?_; rintro e w3 ⟨rfl, hb3⟩; have he3 := block_below (at_a0 w2 (#[.int .i64 0, .int .i64 0]) 42) hb3; have hf3 := block_below ((heap_alloc_old w2 (.cells #[.int .i64 0, .int .i64 0] 42) (Array.getElem?_eq_some_iff.1 hf2).1).trans hf2) hb3; have c0 := cell_at (j := 0) he3; have c1 := cell_at (j := 1) he3; have d0 := cell_at (j := 0) hf3; have d1 := cell_at (j := 1) hf3; have f0 := free_at (j := 0) hf3; have f1 := free_at (j := 1) hf3; simp only [List.getElem?_toArray, List.getElem?_cons_zero, List.getElem?_cons_succ] at c0 c1 d0 d1; have hB3 := nextB (hB2.alloc hB2.size (.cells #[.int .i64 0, .int .i64 0] 42)) hb3; have hx3 := Lib.hid ((hx2.alloc (.cells #[.int .i64 0, .int .i64 0] 42)).below hb3); have HR3 := Lib.hid ((HR2.out.alloc (.cells #[.int .i64 0, .int .i64 0] 42)).below hb3))
    clear HW hx1 hb1 h2 hb3 hr2 hx2 HR2 c0 c1 d0 d1 f0 f1
    by_cases h1 : st = 1
    · subst h1
      rw [if_pos rfl] at hr
      go_wp2_with (go_at_call 54; refine (stood_any _ _ _ _ _ hx3.out).mono ?_; rintro e w4 ⟨rfl, hb4⟩; have hf4 := block_below hf3 hb4; have d0 := cell_at (j := 0) hf4; have d1 := cell_at (j := 1) hf4; have f0 := free_at (j := 0) hf4; have f1 := free_at (j := 1) hf4; simp only [List.getElem?_toArray, List.getElem?_cons_zero, List.getElem?_cons_succ] at d0 d1)
      refine end_tmp2_cell rfl rfl rfl (store2 hf4 rfl) Try.underlying42 rfl (by kernel_rfl) ?_
      unfold ReadSays
      rw [hr]
      exact ⟨rfl, ((nextB hB3 hb4).setCell (p := ⟨w.heap.size, 0, none⟩) (Nat.le_refl _) _).setCell (p := ⟨w.heap.size, 1, none⟩) (Nat.le_refl _) _⟩
    · rw [if_neg h1] at hr
      have h1' : ((st : Int) == 1) = false := by simp; omega
      go_wp2_with (go_at_call 54; refine (stood_any _ _ _ _ _ hx3.out).mono ?_; rintro e w4 ⟨rfl, hb4⟩; have hf4 := block_below hf3 hb4; have HR4 := Lib.hid (HR3.out.below hb4); have d0 := cell_at (j := 0) hf4; have d1 := cell_at (j := 1) hf4; have f0 := free_at (j := 0) hf4; have f1 := free_at (j := 1) hf4; simp only [List.getElem?_toArray, List.getElem?_cons_zero, List.getElem?_cons_succ] at d0 d1)
      refine end_tmp2_cell rfl rfl rfl (store2 hf4 rfl) Try.underlying42 rfl (by kernel_rfl) ?_
      unfold ReadSays
      rw [hr]
      refine ⟨_, rfl, ?_, ((nextB hB3 hb4).setCell (p := ⟨w.heap.size, 0, none⟩) (Nat.le_refl _) _).setCell (p := ⟨w.heap.size, 1, none⟩) (Nat.le_refl _) _⟩
      exact ((HR4.out.setAway (HR4.out.ne hf4 (by decide)) _).setAway (HR4.out.ne hf4 (by decide)) _)

def ParseSays (t : List UInt8) (w : World) (e : Ending) (w' : World) : Prop :=
  match readS t with
  | .error a => e = .returned (.tuple #[.slice none 0 0, .agg #[.int .i64 1, .int .i64 a]]) ∧ Below w.heap.size w w'
  | .ok (cnt, acc) => ∃ v, e = .returned (.tuple #[v, .agg #[.int .i64 0, .int .i64 0]]) ∧ Recs w' w.heap.size 34 3 v (acc.map pcR) ∧ Below w.heap.size w w'
def countS (t : List UInt8) : Nat := match readS t with
  | .error _ => 0
  | .ok (cnt, _) => cnt

set_option maxHeartbeats 1000000 in
set_option maxRecDepth 100000 in
theorem scount_any (t : List UInt8) (w : World) (ht : t.length ≤ 1000000) : Calls Try.prog 28 #[.string ⟨t.toArray⟩] w fun e w' => e = .returned (.int .i64 (countS t)) ∧ Below w.heap.size w w' := by
  have hr := fun w => sread_any t w ht
  unfold ReadSays at hr
  rcases hS : readS t with a | ⟨cnt, acc⟩
  · rw [hS] at hr
    have hc : countS t = 0 := by unfold countS; rw [hS]
    have HR := Lib.hid hr
    rw [hc]
    clear hr hS
    go_enter Try.func28, Try.ntmps28
    go_wp2_with (go_at_call 37; refine (HR.out _).mono ?_; rintro e w1 ⟨rfl, hb1⟩)
    go_ret
    exact ⟨rfl, hb1.alloc hb1.size _⟩
  · rw [hS] at hr
    have hc : countS t = cnt := by unfold countS; rw [hS]
    have HR := Lib.hid hr
    rw [hc]
    clear hr hS
    go_enter Try.func28, Try.ntmps28
    go_wp2_with (go_at_call 37; refine (HR.out _).mono ?_; rintro e w1 ⟨v, rfl, _, hb1⟩)
    go_ret
    exact ⟨rfl, hb1.alloc hb1.size _⟩

set_option maxHeartbeats 1000000 in
set_option maxRecDepth 100000 in
theorem sparse_any (t : List UInt8) (w : World) (ht : t.length ≤ 1000000) : Calls Try.prog 23 #[.string ⟨t.toArray⟩] w (ParseSays t w) := by
  have hr := fun w => sread_any t w ht
  unfold ReadSays at hr
  unfold ParseSays
  have hB0 : Below w.heap.size w (w.alloc (.cells #[.int .i64 0, .int .i64 0] 42)) := (Below.refl _ _).alloc (Nat.le_refl _) _
  rcases hS : readS t with a | ⟨cnt, acc⟩
  · rw [hS] at hr
    simp only at hr ⊢
    have HR := Lib.hid hr
    clear hr hS
    go_enter Try.func23, Try.ntmps23
    go_upto_region 2 with (go_at_call 37; refine (HR.out _).mono ?_; rintro e w1 ⟨rfl, hb1⟩)
    have hf1 := block_below (at_a0 w _ _) hb1
    have hf2 := (heap_alloc_old w1 (.cells #[.int .i64 1, .int .i64 a] 42) (Array.getElem?_eq_some_iff.1 hf1).1).trans hf1
    have d0 := cell_at (j := 0) hf2
    have d1 := cell_at (j := 1) hf2
    have f0 := free_at (j := 0) hf2
    have f1 := free_at (j := 1) hf2
    have c0 := cell_at (j := 0) (at_a0 w1 #[.int .i64 1, .int .i64 a] 42)
    have c1 := cell_at (j := 1) (at_a0 w1 #[.int .i64 1, .int .i64 a] 42)
    simp only [List.getElem?_toArray, List.getElem?_cons_zero, List.getElem?_cons_succ] at c0 c1 d0 d1
    have hB2 := (nextB hB0 hb1).alloc (nextB hB0 hb1).size (.cells #[.int .i64 1, .int .i64 a] 42)
    generalize w1.alloc (.cells #[.int .i64 1, .int .i64 a] 42) = V at *
    generalize w1.heap.size = xb at *
    clear hf1 hb1 HR hB0
    go_region
    go_wp2
    refine end_tmp_cell rfl rfl rfl (show _ from store2 hf2 rfl) Try.underlying42 rfl (by kernel_rfl) ?_
    have hz := (hB2.setCell (p := ⟨w.heap.size, 0, none⟩) (Nat.le_refl _) (.int .i64 1)).setCell (p := ⟨w.heap.size, 1, none⟩) (Nat.le_refl _) (.int .i64 a)
    exact ⟨rfl, ⟨hz.os, hz.tape, hz.output, hz.size, hz.block⟩⟩
  · rw [hS] at hr
    simp only at hr ⊢
    have HR := Lib.hid hr
    clear hr hS
    go_enter Try.func23, Try.ntmps23
    go_upto_region 2 with (go_at_call 37; refine (HR.out _).mono ?_; rintro e w1 ⟨v, rfl, hr1, hb1⟩)
    have hf1 := block_below (at_a0 w _ _) hb1
    have hf2 := (heap_alloc_old w1 (.cells #[.int .i64 0, .int .i64 0] 42) (Array.getElem?_eq_some_iff.1 hf1).1).trans hf1
    have d0 := cell_at (j := 0) hf2
    have d1 := cell_at (j := 1) hf2
    have f0 := free_at (j := 0) hf2
    have f1 := free_at (j := 1) hf2
    have c0 := cell_at (j := 0) (at_a0 w1 #[.int .i64 0, .int .i64 0] 42)
    have c1 := cell_at (j := 1) (at_a0 w1 #[.int .i64 0, .int .i64 0] 42)
    simp only [List.getElem?_toArray, List.getElem?_cons_zero, List.getElem?_cons_succ] at c0 c1 d0 d1
    have hB2 := (nextB hB0 hb1).alloc (nextB hB0 hb1).size (.cells #[.int .i64 0, .int .i64 0] 42)
    have HRV := Lib.hid ((hr1.alloc (.cells #[.int .i64 0, .int .i64 0] 42)).base (b2 := w.heap.size) (by simp))
    generalize w1.alloc (.cells #[.int .i64 0, .int .i64 0] 42) = V at *
    generalize w1.heap.size = xb at *
    clear hf1 hb1 HR hB0 hr1
    go_region
    go_wp2
    refine end_tmp_cell rfl rfl rfl (show _ from store2 hf2 rfl) Try.underlying42 rfl (by kernel_rfl) ?_
    have hz := (hB2.setCell (p := ⟨w.heap.size, 0, none⟩) (Nat.le_refl _) (.int .i64 0)).setCell (p := ⟨w.heap.size, 1, none⟩) (Nat.le_refl _) (.int .i64 0)
    exact ⟨_, rfl, (HRV.out.setAway (HRV.out.ne hf2 (by decide)) _).setAway (HRV.out.ne hf2 (by decide)) _, ⟨hz.os, hz.tape, hz.output, hz.size, hz.block⟩⟩
end Go.Proofs.Ytemiegbgnpcbiaa
