/- Subtitles (srt): read, Parse, Count, walked. | file.pieces, walked: at each kind what the kind's Parse tells. | What sheets and scripts declare: they return some text. | Subtitles (srt), plain: the pieces' texts are the text. | What songs declare: they return some text. -/
import Derived.Test.YtndpcphmndfajaaGreatDoorZSrt2
import Derived.Test.YtndpcphmndfajaaGreatDoorZLc1
import Derived.Test.YtndpcphmndfajaaGreatDoorZLc2

namespace Go.Proofs.YtndpcphmndfajaaGreatDoor
open Go.RowKit
set_option linter.unusedVariables false

theorem end_tmp2_cell {P : Program} {fn : Func} {R : Ending → World → Prop} {a : Act} {w : World} {p u u2 : Tmp} {ty t : TypeId} {b : Nat} {C : Array Value} {d : TypeDesc}
    (h : fn.results = #[.tmp u, .tmp u2, .cell p ty]) (hd0 : a.defers = []) (hp : a.tmps.getD p undef = .pointer (some ⟨b, 0, none⟩)) (hg : w.heap[b]? = some (.cells C t (0, 0)))
    (hu : P.underlying ty = some d) (hd : (match d with | .struct _ | .array _ _ => true | _ => false) = true) (hi : (P.info? ty).map (·.size) = some C.size)
    (hR : R (.returned (.tuple #[a.tmps.getD u undef, a.tmps.getD u2 undef, .agg C])) w) : bodyPost P fn R .ret a w := by
  refine bodyPost_ret (v := .tuple #[a.tmps.getD u undef, a.tmps.getD u2 undef, .agg C]) ?_ hd0 hR
  have hp' : a.tmps[p]?.getD undef = .pointer (some ⟨b, 0, none⟩) := by simpa using hp
  simp only [results, h]
  simp [hp', asAddr, run_loadVar_row w b t ty C (0, 0) d hg hu hd hi]

set_option maxRecDepth 100000 in
theorem blocks_any (w : World) : Calls Tryz.prog 274 #[] w fun e w' =>
    e = .returned (.tuple #[.func (.func 321) #[] #[.pointer (some ⟨w.heap.size, 0, none⟩), .pointer (some ⟨w.heap.size + 1, 0, none⟩)], .func (.func 323) #[] #[.pointer (some ⟨w.heap.size, 0, none⟩), .pointer (some ⟨w.heap.size + 1, 0, none⟩)]]) ∧
    Boxes w' w.heap.size (w.heap.size + 1) 0 0 ∧ Below w.heap.size w w' := by
  go_enter Tryz.func274, Tryz.ntmps274
  go_wp2
  go_ret2
  exact ⟨rfl, ⟨at_a1 _ _ _ _, at_a2 _ _ _ _⟩, ((Below.refl _ _).alloc (Nat.le_refl _) _).alloc (by simp) _⟩

set_option maxRecDepth 100000 in
theorem stood_any (bs bc st cnt : Nat) (w : World) (h : Boxes w bs bc st cnt) : Calls Tryz.prog 323 #[.pointer (some ⟨bs, 0, none⟩), .pointer (some ⟨bc, 0, none⟩)] w fun e w' => e = .returned (.tuple #[.int .i64 st, .int .i64 cnt]) ∧ Below w.heap.size w w' := by
  have c0 := cell_at (j := 0) h.1
  have c1 := cell_at (j := 0) h.2
  simp only [List.getElem?_toArray, List.getElem?_cons_zero] at c0 c1
  go_enter Tryz.func323, Tryz.ntmps323
  go_wp2
  go_quiet (fail)
  go_wp2
  go_ret2
  exact ⟨rfl, below_drewN (Below.refl _ _) _⟩

theorem Recs.setAway {w : World} {base e size b j : Nat} {v : Value} {L : List (List Value)} (h : Recs w base e size v L) (hb : ∀ i, v.ownBlock = some i → i ≠ b) (u : Value) : Recs (w.setCell ⟨b, j, none⟩ u) base e size v L := by
  refine ⟨h.1, h.2.1, ?_⟩
  rcases h.2.2 with hn | ⟨g, cap, cur, hv, hbs, hg, rest⟩
  · exact .inl hn
  · refine .inr ⟨g, cap, cur, hv, hbs, (heap_set_other u (hb g ?_)).trans hg, rest⟩
    rw [hv]; rfl

def ReadSays (t : List UInt8) (w : World) (e : Ending) (w' : World) : Prop :=
  match readS t with
  | .error a => e = .returned (.tuple #[.slice none 0 0, .int .i64 0, .agg #[.int .i64 1, .int .i64 a]]) ∧ Below w.heap.size w w'
  | .ok (cnt, acc) => ∃ v, e = .returned (.tuple #[v, .int .i64 cnt, .agg #[.int .i64 0, .int .i64 0]]) ∧ Recs w' w.heap.size 135 3 v (acc.map pcR) ∧ Below w.heap.size w w'

set_option maxHeartbeats 2000000 in
set_option maxRecDepth 100000 in
theorem sread_any (t : List UInt8) (w : World) (ht : t.length ≤ 1000000) : Calls Tryz.prog 206 #[.string ⟨t.toArray⟩] w (ReadSays t w) := by
  have hw := fun w1 (h : Boxes w1 (w.heap.size + 1) (w.heap.size + 2) 0 0) => walk_any (w.heap.size + 1) (w.heap.size + 2) t w1 h (by omega) ht
  unfold WalkSays at hw
  have hB0 : Below w.heap.size w (w.alloc (.cells #[.int .i64 0, .int .i64 0] 26)) := (Below.refl _ _).alloc (Nat.le_refl _) _
  rcases hS : walkS (linesOf t 0) 0 0 [] with a | ⟨st, cnt, acc⟩
  · rw [hS] at hw
    simp only at hw
    have hr : readS t = .error a := by unfold readS; rw [hS]
    have HW := Lib.hid hw
    clear hw hS
    go_enter Tryz.func206, Tryz.ntmps206
    go_upto_region 3 with (first | (go_at_call 274; refine (blocks_any _).mono ?_; rintro e w1 ⟨rfl, hx1, hb1⟩; rw [show (w.alloc (.cells #[.int .i64 0, .int .i64 0] 26)).heap.size = w.heap.size + 1 by simp] at hx1 ⊢; have hf1 := block_below (at_a0 w _ _) hb1) | (go_at_call 205; refine (HW.out _ hx1).mono ?_; rintro e w2 ⟨rfl, h2⟩; have hf2 := block_two hf1 h2 (by omega) (by omega)))
    have hB2 : Below w.heap.size w w2 := (nextB hB0 hb1).trans (h2.below (by omega) (by omega) (nextB hB0 hb1).size)
    go_upto_region 4 with (go_at_call 6; refine (bad_any _ _ _).mono ?_; rintro e w3 ⟨rfl, hb3⟩; have he3 := block_below (at_a0 w2 (#[.int .i64 1, .int .i64 a]) 26) hb3; have hf3 := block_below ((heap_alloc_old w2 (.cells #[.int .i64 1, .int .i64 a] 26) (Array.getElem?_eq_some_iff.1 hf2).1).trans hf2) hb3; have c0 := cell_at (j := 0) he3; have c1 := cell_at (j := 1) he3; have d0 := cell_at (j := 0) hf3; have d1 := cell_at (j := 1) hf3; have f0 := free_at (j := 0) hf3; have f1 := free_at (j := 1) hf3; simp only [List.getElem?_toArray, List.getElem?_cons_zero, List.getElem?_cons_succ] at c0 c1 d0 d1; have hB3 := nextB (hB2.alloc hB2.size (.cells #[.int .i64 1, .int .i64 a] 26)) hb3)
    clear HW hx1 hb1 h2 hb3
    go_region
    go_wp2
    refine end_tmp2_cell rfl rfl rfl (show _ from store2 hf3 rfl) Tryz.underlying26 rfl (by kernel_rfl) ?_
    unfold ReadSays
    rw [hr]
    have hz := (hB3.setCell (p := ⟨w.heap.size, 0, none⟩) (Nat.le_refl _) (.int .i64 1)).setCell (p := ⟨w.heap.size, 1, none⟩) (Nat.le_refl _) (.int .i64 a)
    exact ⟨rfl, ⟨hz.os, hz.tape, hz.output, hz.size, hz.block⟩⟩
  · rw [hS] at hw
    simp only at hw
    have HW := Lib.hid hw
    have hr : readS t = if st = 1 then .error t.length else .ok (cnt, acc) := by unfold readS; rw [hS]
    clear hw hS
    go_enter Tryz.func206, Tryz.ntmps206
    go_upto_region 3 with (first | (go_at_call 274; refine (blocks_any _).mono ?_; rintro e w1 ⟨rfl, hx1, hb1⟩; rw [show (w.alloc (.cells #[.int .i64 0, .int .i64 0] 26)).heap.size = w.heap.size + 1 by simp] at hx1 ⊢; have hf1 := block_below (at_a0 w _ _) hb1) | (go_at_call 205; refine (HW.out _ hx1).mono ?_; rintro e w2 ⟨v2, rfl, hr2, hx2, h2⟩; have hf2 := block_two hf1 h2 (by omega) (by omega)))
    have hB1 := nextB hB0 hb1
    have hB2 : Below w.heap.size w w2 := hB1.trans (h2.below (by omega) (by omega) hB1.size)
    have HR2 := Lib.hid (hr2.base hB1.size)
    go_upto_region 5 with (go_at_call 6; refine (bad_any _ _ _).mono ?_; rintro e w3 ⟨rfl, hb3⟩; have he3 := block_below (at_a0 w2 (#[.int .i64 0, .int .i64 0]) 26) hb3; have hf3 := block_below ((heap_alloc_old w2 (.cells #[.int .i64 0, .int .i64 0] 26) (Array.getElem?_eq_some_iff.1 hf2).1).trans hf2) hb3; have c0 := cell_at (j := 0) he3; have c1 := cell_at (j := 1) he3; have d0 := cell_at (j := 0) hf3; have d1 := cell_at (j := 1) hf3; have f0 := free_at (j := 0) hf3; have f1 := free_at (j := 1) hf3; simp only [List.getElem?_toArray, List.getElem?_cons_zero, List.getElem?_cons_succ] at c0 c1 d0 d1; have hB3 := nextB (hB2.alloc hB2.size (.cells #[.int .i64 0, .int .i64 0] 26)) hb3; have hx3 := Lib.hid ((hx2.alloc (.cells #[.int .i64 0, .int .i64 0] 26)).below hb3); have HR3 := Lib.hid ((HR2.out.alloc (.cells #[.int .i64 0, .int .i64 0] 26)).below hb3))
    clear HW hx1 hb1 h2 hb3 hr2 hx2 HR2 c0 c1 d0 d1 f0 f1
    by_cases h1 : st = 1
    · subst h1
      rw [if_pos rfl] at hr
      go_wp2_with (go_at_call 323; refine (stood_any _ _ _ _ _ hx3.out).mono ?_; rintro e w4 ⟨rfl, hb4⟩; have hf4 := block_below hf3 hb4; have d0 := cell_at (j := 0) hf4; have d1 := cell_at (j := 1) hf4; have f0 := free_at (j := 0) hf4; have f1 := free_at (j := 1) hf4; simp only [List.getElem?_toArray, List.getElem?_cons_zero, List.getElem?_cons_succ] at d0 d1)
      refine end_tmp2_cell rfl rfl rfl (store2 hf4 rfl) Tryz.underlying26 rfl (by kernel_rfl) ?_
      unfold ReadSays
      rw [hr]
      exact ⟨rfl, ((nextB hB3 hb4).setCell (p := ⟨w.heap.size, 0, none⟩) (Nat.le_refl _) _).setCell (p := ⟨w.heap.size, 1, none⟩) (Nat.le_refl _) _⟩
    · rw [if_neg h1] at hr
      have h1' : ((st : Int) == 1) = false := by simp; omega
      go_wp2_with (go_at_call 323; refine (stood_any _ _ _ _ _ hx3.out).mono ?_; rintro e w4 ⟨rfl, hb4⟩; have hf4 := block_below hf3 hb4; have HR4 := Lib.hid (HR3.out.below hb4); have d0 := cell_at (j := 0) hf4; have d1 := cell_at (j := 1) hf4; have f0 := free_at (j := 0) hf4; have f1 := free_at (j := 1) hf4; simp only [List.getElem?_toArray, List.getElem?_cons_zero, List.getElem?_cons_succ] at d0 d1)
      refine end_tmp2_cell rfl rfl rfl (store2 hf4 rfl) Tryz.underlying26 rfl (by kernel_rfl) ?_
      unfold ReadSays
      rw [hr]
      refine ⟨_, rfl, ?_, ((nextB hB3 hb4).setCell (p := ⟨w.heap.size, 0, none⟩) (Nat.le_refl _) _).setCell (p := ⟨w.heap.size, 1, none⟩) (Nat.le_refl _) _⟩
      exact ((HR4.out.setAway (HR4.out.ne hf4 (by decide)) _).setAway (HR4.out.ne hf4 (by decide)) _)

def ParseSays (t : List UInt8) (w : World) (e : Ending) (w' : World) : Prop :=
  match readS t with
  | .error a => e = .returned (.tuple #[.slice none 0 0, .agg #[.int .i64 1, .int .i64 a]]) ∧ Below w.heap.size w w'
  | .ok (cnt, acc) => ∃ v, e = .returned (.tuple #[v, .agg #[.int .i64 0, .int .i64 0]]) ∧ Recs w' w.heap.size 135 3 v (acc.map pcR) ∧ Below w.heap.size w w'
def countS (t : List UInt8) : Nat := match readS t with
  | .error _ => 0
  | .ok (cnt, _) => cnt

set_option maxHeartbeats 1000000 in
set_option maxRecDepth 100000 in
theorem sparse_any (t : List UInt8) (w : World) (ht : t.length ≤ 1000000) : Calls Tryz.prog 126 #[.string ⟨t.toArray⟩] w (ParseSays t w) := by
  have hr := fun w => sread_any t w ht
  unfold ReadSays at hr
  unfold ParseSays
  have hB0 : Below w.heap.size w (w.alloc (.cells #[.int .i64 0, .int .i64 0] 26)) := (Below.refl _ _).alloc (Nat.le_refl _) _
  rcases hS : readS t with a | ⟨cnt, acc⟩
  · rw [hS] at hr
    simp only at hr ⊢
    have HR := Lib.hid hr
    clear hr hS
    go_enter Tryz.func126, Tryz.ntmps126
    go_upto_region 2 with (go_at_call 206; refine (HR.out _).mono ?_; rintro e w1 ⟨rfl, hb1⟩)
    have hf1 := block_below (at_a0 w _ _) hb1
    have hf2 := (heap_alloc_old w1 (.cells #[.int .i64 1, .int .i64 a] 26) (Array.getElem?_eq_some_iff.1 hf1).1).trans hf1
    have d0 := cell_at (j := 0) hf2
    have d1 := cell_at (j := 1) hf2
    have f0 := free_at (j := 0) hf2
    have f1 := free_at (j := 1) hf2
    have c0 := cell_at (j := 0) (at_a0 w1 #[.int .i64 1, .int .i64 a] 26)
    have c1 := cell_at (j := 1) (at_a0 w1 #[.int .i64 1, .int .i64 a] 26)
    simp only [List.getElem?_toArray, List.getElem?_cons_zero, List.getElem?_cons_succ] at c0 c1 d0 d1
    have hB2 := (nextB hB0 hb1).alloc (nextB hB0 hb1).size (.cells #[.int .i64 1, .int .i64 a] 26)
    generalize w1.alloc (.cells #[.int .i64 1, .int .i64 a] 26) = V at *
    generalize w1.heap.size = xb at *
    clear hf1 hb1 HR hB0
    go_region
    go_wp2
    refine end_tmp_cell rfl rfl rfl (show _ from store2 hf2 rfl) Tryz.underlying26 rfl (by kernel_rfl) ?_
    have hz := (hB2.setCell (p := ⟨w.heap.size, 0, none⟩) (Nat.le_refl _) (.int .i64 1)).setCell (p := ⟨w.heap.size, 1, none⟩) (Nat.le_refl _) (.int .i64 a)
    exact ⟨rfl, ⟨hz.os, hz.tape, hz.output, hz.size, hz.block⟩⟩
  · rw [hS] at hr
    simp only at hr ⊢
    have HR := Lib.hid hr
    clear hr hS
    go_enter Tryz.func126, Tryz.ntmps126
    go_upto_region 2 with (go_at_call 206; refine (HR.out _).mono ?_; rintro e w1 ⟨v, rfl, hr1, hb1⟩)
    have hf1 := block_below (at_a0 w _ _) hb1
    have hf2 := (heap_alloc_old w1 (.cells #[.int .i64 0, .int .i64 0] 26) (Array.getElem?_eq_some_iff.1 hf1).1).trans hf1
    have d0 := cell_at (j := 0) hf2
    have d1 := cell_at (j := 1) hf2
    have f0 := free_at (j := 0) hf2
    have f1 := free_at (j := 1) hf2
    have c0 := cell_at (j := 0) (at_a0 w1 #[.int .i64 0, .int .i64 0] 26)
    have c1 := cell_at (j := 1) (at_a0 w1 #[.int .i64 0, .int .i64 0] 26)
    simp only [List.getElem?_toArray, List.getElem?_cons_zero, List.getElem?_cons_succ] at c0 c1 d0 d1
    have hB2 := (nextB hB0 hb1).alloc (nextB hB0 hb1).size (.cells #[.int .i64 0, .int .i64 0] 26)
    have HRV := Lib.hid ((hr1.alloc (.cells #[.int .i64 0, .int .i64 0] 26)).base (b2 := w.heap.size) (by simp))
    generalize w1.alloc (.cells #[.int .i64 0, .int .i64 0] 26) = V at *
    generalize w1.heap.size = xb at *
    clear hf1 hb1 HR hB0 hr1
    go_region
    go_wp2
    refine end_tmp_cell rfl rfl rfl (show _ from store2 hf2 rfl) Tryz.underlying26 rfl (by kernel_rfl) ?_
    have hz := (hB2.setCell (p := ⟨w.heap.size, 0, none⟩) (Nat.le_refl _) (.int .i64 0)).setCell (p := ⟨w.heap.size, 1, none⟩) (Nat.le_refl _) (.int .i64 0)
    exact ⟨_, rfl, (HRV.out.setAway (HRV.out.ne hf2 (by decide)) _).setAway (HRV.out.ne hf2 (by decide)) _, ⟨hz.os, hz.tape, hz.output, hz.size, hz.block⟩⟩
end Go.Proofs.YtndpcphmndfajaaGreatDoor

namespace Go.Proofs.YtndpcphmndfajaaGreatDoor
open Go.RowKit
set_option linter.unusedVariables false
set_option linter.unusedSimpArgs false

def srtR (t : List UInt8) : Except Nat (List Pc) := match readS t with
  | .error a => .error a
  | .ok (_, acc) => .ok acc
theorem srtR_any (t : List UInt8) (w : World) (ht : t.length ≤ 1000000) : Calls Tryz.prog 126 #[.string ⟨t.toArray⟩] w (ReadG (srtR t) w) :=
  (sparse_any t w ht).mono fun e w' h => by
    unfold ParseSays at h
    unfold ReadG srtR
    rcases hS : readS t with a | ⟨cnt, acc⟩
    · rw [hS] at h; exact h
    · rw [hS] at h; exact h

set_option maxHeartbeats 2000000 in
set_option maxRecDepth 100000 in
theorem fpieces4 (R : List UInt8 → Except Nat (List Pc)) (HP : ∀ (t : List UInt8) (w : World), t.length ≤ 1000000 → Calls Tryz.prog 125 #[.string ⟨t.toArray⟩] w (ReadG (R t) w)) (t : List UInt8) (w : World) (ht : t.length ≤ 1000000) :
    Calls Tryz.prog 57 #[.int .i64 4, .string ⟨t.toArray⟩] w (ReadG (R t) w) := by
  have hw := HP t (w.alloc (.cells #[.int .i64 0, .int .i64 0] 26)) ht
  have hB0 : Below w.heap.size w (w.alloc (.cells #[.int .i64 0, .int .i64 0] 26)) := (Below.refl _ _).alloc (Nat.le_refl _) _
  clear HP
  unfold ReadG at hw ⊢
  rcases hS : R t with a | acc
  · rw [hS] at hw
    simp only at hw ⊢
    have HW := Lib.hid hw
    clear hw hS
    go_enter Tryz.func57, Tryz.ntmps57
    go_wp2_with (go_at_call 125; refine (HW.out).mono ?_; rintro e w1 ⟨rfl, h1⟩; have hf1 := block_below (at_a0 w _ _) h1; have d0 := cell_at (j := 0) hf1; have d1 := cell_at (j := 1) hf1; have f0 := free_at (j := 0) hf1; have f1 := free_at (j := 1) hf1; simp only [List.getElem?_toArray, List.getElem?_cons_zero, List.getElem?_cons_succ] at d0 d1)
    refine end_tmp_cell rfl rfl rfl (show _ from store2 hf1 rfl) Tryz.underlying26 rfl (by kernel_rfl) ?_
    have hB1 : Below w.heap.size w w1 := nextB hB0 h1
    exact ⟨rfl, (hB1.setCell (p := ⟨w.heap.size, 0, none⟩) (Nat.le_refl _) (.int .i64 1)).setCell (p := ⟨w.heap.size, 1, none⟩) (Nat.le_refl _) (.int .i64 a)⟩
  · rw [hS] at hw
    simp only at hw ⊢
    have HW := Lib.hid hw
    clear hw hS
    go_enter Tryz.func57, Tryz.ntmps57
    go_wp2_with (go_at_call 125; refine (HW.out).mono ?_; rintro e w1 ⟨v1, rfl, hr1, h1⟩; have hf1 := block_below (at_a0 w _ _) h1; have d0 := cell_at (j := 0) hf1; have d1 := cell_at (j := 1) hf1; have f0 := free_at (j := 0) hf1; have f1 := free_at (j := 1) hf1; simp only [List.getElem?_toArray, List.getElem?_cons_zero, List.getElem?_cons_succ] at d0 d1)
    refine end_tmp_cell rfl rfl rfl (show _ from store2 hf1 rfl) Tryz.underlying26 rfl (by kernel_rfl) ?_
    have hB1 : Below w.heap.size w w1 := nextB hB0 h1
    have hr2 : Recs w1 (w.heap.size + 1) 135 3 v1 (acc.map pcR) := by simpa using hr1
    refine ⟨v1, rfl, ?_, (hB1.setCell (p := ⟨w.heap.size, 0, none⟩) (Nat.le_refl _) _).setCell (p := ⟨w.heap.size, 1, none⟩) (Nat.le_refl _) _⟩
    exact ((hr2.setOld (by omega)).setOld (by omega)).base (by omega)

set_option maxHeartbeats 2000000 in
set_option maxRecDepth 100000 in
theorem fpieces5 (R : List UInt8 → Except Nat (List Pc)) (HP : ∀ (t : List UInt8) (w : World), t.length ≤ 1000000 → Calls Tryz.prog 126 #[.string ⟨t.toArray⟩] w (ReadG (R t) w)) (t : List UInt8) (w : World) (ht : t.length ≤ 1000000) :
    Calls Tryz.prog 57 #[.int .i64 5, .string ⟨t.toArray⟩] w (ReadG (R t) w) := by
  have hw := HP t (w.alloc (.cells #[.int .i64 0, .int .i64 0] 26)) ht
  have hB0 : Below w.heap.size w (w.alloc (.cells #[.int .i64 0, .int .i64 0] 26)) := (Below.refl _ _).alloc (Nat.le_refl _) _
  clear HP
  unfold ReadG at hw ⊢
  rcases hS : R t with a | acc
  · rw [hS] at hw
    simp only at hw ⊢
    have HW := Lib.hid hw
    clear hw hS
    go_enter Tryz.func57, Tryz.ntmps57
    go_wp2_with (go_at_call 126; refine (HW.out).mono ?_; rintro e w1 ⟨rfl, h1⟩; have hf1 := block_below (at_a0 w _ _) h1; have d0 := cell_at (j := 0) hf1; have d1 := cell_at (j := 1) hf1; have f0 := free_at (j := 0) hf1; have f1 := free_at (j := 1) hf1; simp only [List.getElem?_toArray, List.getElem?_cons_zero, List.getElem?_cons_succ] at d0 d1)
    refine end_tmp_cell rfl rfl rfl (show _ from store2 hf1 rfl) Tryz.underlying26 rfl (by kernel_rfl) ?_
    have hB1 : Below w.heap.size w w1 := nextB hB0 h1
    exact ⟨rfl, (hB1.setCell (p := ⟨w.heap.size, 0, none⟩) (Nat.le_refl _) (.int .i64 1)).setCell (p := ⟨w.heap.size, 1, none⟩) (Nat.le_refl _) (.int .i64 a)⟩
  · rw [hS] at hw
    simp only at hw ⊢
    have HW := Lib.hid hw
    clear hw hS
    go_enter Tryz.func57, Tryz.ntmps57
    go_wp2_with (go_at_call 126; refine (HW.out).mono ?_; rintro e w1 ⟨v1, rfl, hr1, h1⟩; have hf1 := block_below (at_a0 w _ _) h1; have d0 := cell_at (j := 0) hf1; have d1 := cell_at (j := 1) hf1; have f0 := free_at (j := 0) hf1; have f1 := free_at (j := 1) hf1; simp only [List.getElem?_toArray, List.getElem?_cons_zero, List.getElem?_cons_succ] at d0 d1)
    refine end_tmp_cell rfl rfl rfl (show _ from store2 hf1 rfl) Tryz.underlying26 rfl (by kernel_rfl) ?_
    have hB1 : Below w.heap.size w w1 := nextB hB0 h1
    have hr2 : Recs w1 (w.heap.size + 1) 135 3 v1 (acc.map pcR) := by simpa using hr1
    refine ⟨v1, rfl, ?_, (hB1.setCell (p := ⟨w.heap.size, 0, none⟩) (Nat.le_refl _) _).setCell (p := ⟨w.heap.size, 1, none⟩) (Nat.le_refl _) _⟩
    exact ((hr2.setOld (by omega)).setOld (by omega)).base (by omega)

set_option maxHeartbeats 2000000 in
set_option maxRecDepth 100000 in
theorem fpieces6 (R : List UInt8 → Except Nat (List Pc)) (HP : ∀ (t : List UInt8) (w : World), t.length ≤ 1000000 → Calls Tryz.prog 127 #[.string ⟨t.toArray⟩] w (ReadG (R t) w)) (t : List UInt8) (w : World) (ht : t.length ≤ 1000000) :
    Calls Tryz.prog 57 #[.int .i64 6, .string ⟨t.toArray⟩] w (ReadG (R t) w) := by
  have hw := HP t (w.alloc (.cells #[.int .i64 0, .int .i64 0] 26)) ht
  have hB0 : Below w.heap.size w (w.alloc (.cells #[.int .i64 0, .int .i64 0] 26)) := (Below.refl _ _).alloc (Nat.le_refl _) _
  clear HP
  unfold ReadG at hw ⊢
  rcases hS : R t with a | acc
  · rw [hS] at hw
    simp only at hw ⊢
    have HW := Lib.hid hw
    clear hw hS
    go_enter Tryz.func57, Tryz.ntmps57
    go_wp2_with (go_at_call 127; refine (HW.out).mono ?_; rintro e w1 ⟨rfl, h1⟩; have hf1 := block_below (at_a0 w _ _) h1; have d0 := cell_at (j := 0) hf1; have d1 := cell_at (j := 1) hf1; have f0 := free_at (j := 0) hf1; have f1 := free_at (j := 1) hf1; simp only [List.getElem?_toArray, List.getElem?_cons_zero, List.getElem?_cons_succ] at d0 d1)
    refine end_tmp_cell rfl rfl rfl (show _ from store2 hf1 rfl) Tryz.underlying26 rfl (by kernel_rfl) ?_
    have hB1 : Below w.heap.size w w1 := nextB hB0 h1
    exact ⟨rfl, (hB1.setCell (p := ⟨w.heap.size, 0, none⟩) (Nat.le_refl _) (.int .i64 1)).setCell (p := ⟨w.heap.size, 1, none⟩) (Nat.le_refl _) (.int .i64 a)⟩
  · rw [hS] at hw
    simp only at hw ⊢
    have HW := Lib.hid hw
    clear hw hS
    go_enter Tryz.func57, Tryz.ntmps57
    go_wp2_with (go_at_call 127; refine (HW.out).mono ?_; rintro e w1 ⟨v1, rfl, hr1, h1⟩; have hf1 := block_below (at_a0 w _ _) h1; have d0 := cell_at (j := 0) hf1; have d1 := cell_at (j := 1) hf1; have f0 := free_at (j := 0) hf1; have f1 := free_at (j := 1) hf1; simp only [List.getElem?_toArray, List.getElem?_cons_zero, List.getElem?_cons_succ] at d0 d1)
    refine end_tmp_cell rfl rfl rfl (show _ from store2 hf1 rfl) Tryz.underlying26 rfl (by kernel_rfl) ?_
    have hB1 : Below w.heap.size w w1 := nextB hB0 h1
    have hr2 : Recs w1 (w.heap.size + 1) 135 3 v1 (acc.map pcR) := by simpa using hr1
    refine ⟨v1, rfl, ?_, (hB1.setCell (p := ⟨w.heap.size, 0, none⟩) (Nat.le_refl _) _).setCell (p := ⟨w.heap.size, 1, none⟩) (Nat.le_refl _) _⟩
    exact ((hr2.setOld (by omega)).setOld (by omega)).base (by omega)

set_option maxHeartbeats 2000000 in
set_option maxRecDepth 100000 in
theorem fpieces7 (R : List UInt8 → Except Nat (List Pc)) (HP : ∀ (t : List UInt8) (w : World), t.length ≤ 1000000 → Calls Tryz.prog 128 #[.string ⟨t.toArray⟩] w (ReadG (R t) w)) (t : List UInt8) (w : World) (ht : t.length ≤ 1000000) :
    Calls Tryz.prog 57 #[.int .i64 7, .string ⟨t.toArray⟩] w (ReadG (R t) w) := by
  have hw := HP t (w.alloc (.cells #[.int .i64 0, .int .i64 0] 26)) ht
  have hB0 : Below w.heap.size w (w.alloc (.cells #[.int .i64 0, .int .i64 0] 26)) := (Below.refl _ _).alloc (Nat.le_refl _) _
  clear HP
  unfold ReadG at hw ⊢
  rcases hS : R t with a | acc
  · rw [hS] at hw
    simp only at hw ⊢
    have HW := Lib.hid hw
    clear hw hS
    go_enter Tryz.func57, Tryz.ntmps57
    go_wp2_with (go_at_call 128; refine (HW.out).mono ?_; rintro e w1 ⟨rfl, h1⟩; have hf1 := block_below (at_a0 w _ _) h1; have d0 := cell_at (j := 0) hf1; have d1 := cell_at (j := 1) hf1; have f0 := free_at (j := 0) hf1; have f1 := free_at (j := 1) hf1; simp only [List.getElem?_toArray, List.getElem?_cons_zero, List.getElem?_cons_succ] at d0 d1)
    refine end_tmp_cell rfl rfl rfl (show _ from store2 hf1 rfl) Tryz.underlying26 rfl (by kernel_rfl) ?_
    have hB1 : Below w.heap.size w w1 := nextB hB0 h1
    exact ⟨rfl, (hB1.setCell (p := ⟨w.heap.size, 0, none⟩) (Nat.le_refl _) (.int .i64 1)).setCell (p := ⟨w.heap.size, 1, none⟩) (Nat.le_refl _) (.int .i64 a)⟩
  · rw [hS] at hw
    simp only at hw ⊢
    have HW := Lib.hid hw
    clear hw hS
    go_enter Tryz.func57, Tryz.ntmps57
    go_wp2_with (go_at_call 128; refine (HW.out).mono ?_; rintro e w1 ⟨v1, rfl, hr1, h1⟩; have hf1 := block_below (at_a0 w _ _) h1; have d0 := cell_at (j := 0) hf1; have d1 := cell_at (j := 1) hf1; have f0 := free_at (j := 0) hf1; have f1 := free_at (j := 1) hf1; simp only [List.getElem?_toArray, List.getElem?_cons_zero, List.getElem?_cons_succ] at d0 d1)
    refine end_tmp_cell rfl rfl rfl (show _ from store2 hf1 rfl) Tryz.underlying26 rfl (by kernel_rfl) ?_
    have hB1 : Below w.heap.size w w1 := nextB hB0 h1
    have hr2 : Recs w1 (w.heap.size + 1) 135 3 v1 (acc.map pcR) := by simpa using hr1
    refine ⟨v1, rfl, ?_, (hB1.setCell (p := ⟨w.heap.size, 0, none⟩) (Nat.le_refl _) _).setCell (p := ⟨w.heap.size, 1, none⟩) (Nat.le_refl _) _⟩
    exact ((hr2.setOld (by omega)).setOld (by omega)).base (by omega)
end Go.Proofs.YtndpcphmndfajaaGreatDoor

namespace Go.Proofs.YtndpcphmndfajaaGreatDoor
open Go.RowKit
set_option linter.unusedVariables false
set_option linter.unusedSimpArgs false

theorem lines_cnt : ∀ (f : Nat) (l : List UInt8) (a : Nat), l.length ≤ f → (linesOf l a).length ≤ l.length
  | 0, l, a, h => by
    obtain rfl : l = [] := List.eq_nil_of_length_eq_zero (by omega)
    simp [linesOf_nil]
  | f + 1, l, a, h => by
    by_cases hl : l = []
    · subst hl; simp [linesOf_nil]
    · have hp := line_pos l hl
      have h2 : 0 < l.length := List.length_pos_iff.2 hl
      rw [linesOf_cons l a hl, List.length_cons]
      have := lines_cnt f (l.drop ((lineAt l).length + (endOf (l.drop (lineAt l).length)).length)) (a + (lineAt l).length + (endOf (l.drop (lineAt l).length)).length) (by rw [List.length_drop]; omega)
      rw [List.length_drop] at this
      omega
theorem cutp_any (s p : List UInt8) (w : World) : Calls Tryz.prog 195 #[.string ⟨s.toArray⟩, .string ⟨p.toArray⟩] w fun e w' => ∃ (d : List UInt8) (b : Bool), e = .returned (.tuple #[.string ⟨d.toArray⟩, .bool b]) ∧ w = w' :=
  (Tryz.strings_CutPrefix ⟨s.toArray⟩ ⟨p.toArray⟩ w).mono fun e w' ⟨h1, h2⟩ => ⟨_, _, h1, h2.symm⟩

set_option maxHeartbeats 2000000 in
set_option maxRecDepth 100000 in
theorem cdecl_any (t : List UInt8) (w : World) (ht : t.length ≤ 1000000) : Calls Tryz.prog 118 #[.string ⟨t.toArray⟩] w fun e w' => (∃ d : List UInt8, e = .returned (.string ⟨d.toArray⟩)) ∧ Below w.heap.size w w' := by
  have CL := Lib.hid (fun w => lines_any t w ht)
  have CC := Lib.hid (fun (s : List UInt8) w => cutp_any s [82, 69, 77, 32, 67, 72, 65, 82, 83, 69, 84, 32] w)
  go_enter Tryz.func118, Tryz.ntmps118
  go_upto_region 2 with (go_at_call 194; refine (CL.out _).mono ?_; rintro e w1 ⟨v, rfl, hr1, hb1⟩; obtain ⟨a, cap, rfl, hc1, hr⟩ := hr1.view)
  have hcells : Hid (∀ i (h : i < (linesOf t 0).length), ∃ g, a = some ⟨g, 0, none⟩ ∧ g < w1.heap.size ∧ w1.cell? ⟨g, i * 3, none⟩ = some (.string ⟨(linesOf t 0)[i].t.toArray⟩) ∧ w1.cell? ⟨g, i * 3 + 1, none⟩ = some (.string ⟨(linesOf t 0)[i].e.toArray⟩) ∧ w1.cell? ⟨g, i * 3 + 2, none⟩ = some (.int .i64 (linesOf t 0)[i].a)) := Lib.hid (fun i h => by
    have h' : i < ((linesOf t 0).map lnR).length := by simpa using h
    rcases hr with h0 | ⟨g, ha, hbs, hg, hcell⟩
    · omega
    · have e9 : ((linesOf t 0).map lnR)[i] = lnR (linesOf t 0)[i] := by simp
      have k0 := hcell i h' 0 (by decide)
      have k1 := hcell i h' 1 (by decide)
      have k2 := hcell i h' 2 (by decide)
      rw [e9] at k0 k1 k2
      exact ⟨g, ha, hg, k0, k1, k2⟩)


  have hnl : (linesOf t 0).length ≤ 1000000 := Nat.le_trans (lines_cnt t.length t 0 (Nat.le_refl _)) ht
  generalize linesOf t 0 = Ls at *
  have HB1 := Lib.hid hb1
  clear hr hr1 hc1 CL hb1
  go_loopw [10] (fun i wr => ∃ (k : Nat), k ≤ Ls.length ∧ i = .int .i64 k ∧ Hid (Below w1.heap.size w1 wr)) (fun i _ => Ls.length - (intOf i).toNat)
  case atStart => exact ⟨0, by omega, rfl, Lib.hid (Below.refl _ _)⟩
  case round =>
    obtain ⟨k, hk, rfl, HB⟩ := hrel
    by_cases hlt : k < Ls.length
    · have q0 : (k : Int) < (Ls.length : Int) := by omega
      obtain ⟨g, rfl, hg, c0, c1, c2⟩ := hcells.out k hlt
      rw [← HB.out.cell (by exact hg)] at c0 c1 c2
      generalize Ls[k] = x at *
      go_upto_region 5 with (go_at_call 195; refine (CC.out _ _).mono ?_; rintro e w2 ⟨d, ok, rfl, rfl⟩)
      rcases ok with _ | _
      · go_wp2
        refine ⟨⟨k + 1, by omega, by simp, Lib.hid ?_⟩, by simp [intOf]; omega⟩
        exact HB.out.alloc HB.out.size _
      · go_wp2
        go_ret
        exact ⟨⟨d, rfl⟩, nextB HB1.out (HB.out.alloc HB.out.size _)⟩
    · have q0 : ¬ (k : Int) < (Ls.length : Int) := by omega
      go_wp2
      go_ret
      exact ⟨⟨[], rfl⟩, nextB HB1.out HB.out⟩

set_option maxHeartbeats 2000000 in
set_option maxRecDepth 100000 in
theorem sdecl_any (t : List UInt8) (w : World) (ht : t.length ≤ 1000000) : Calls Tryz.prog 119 #[.string ⟨t.toArray⟩] w fun e w' => (∃ d : List UInt8, e = .returned (.string ⟨d.toArray⟩)) ∧ Below w.heap.size w w' := by
  have CL := Lib.hid (fun w => lines_any t w ht)
  have CC := Lib.hid (fun (s : List UInt8) w => cutp_any s [67, 104, 97, 114, 115, 101, 116, 58, 32] w)
  go_enter Tryz.func119, Tryz.ntmps119
  go_upto_region 2 with (go_at_call 194; refine (CL.out _).mono ?_; rintro e w1 ⟨v, rfl, hr1, hb1⟩; obtain ⟨a, cap, rfl, hc1, hr⟩ := hr1.view)
  have hcells : Hid (∀ i (h : i < (linesOf t 0).length), ∃ g, a = some ⟨g, 0, none⟩ ∧ g < w1.heap.size ∧ w1.cell? ⟨g, i * 3, none⟩ = some (.string ⟨(linesOf t 0)[i].t.toArray⟩) ∧ w1.cell? ⟨g, i * 3 + 1, none⟩ = some (.string ⟨(linesOf t 0)[i].e.toArray⟩) ∧ w1.cell? ⟨g, i * 3 + 2, none⟩ = some (.int .i64 (linesOf t 0)[i].a)) := Lib.hid (fun i h => by
    have h' : i < ((linesOf t 0).map lnR).length := by simpa using h
    rcases hr with h0 | ⟨g, ha, hbs, hg, hcell⟩
    · omega
    · have e9 : ((linesOf t 0).map lnR)[i] = lnR (linesOf t 0)[i] := by simp
      have k0 := hcell i h' 0 (by decide)
      have k1 := hcell i h' 1 (by decide)
      have k2 := hcell i h' 2 (by decide)
      rw [e9] at k0 k1 k2
      exact ⟨g, ha, hg, k0, k1, k2⟩)


  have hnl : (linesOf t 0).length ≤ 1000000 := Nat.le_trans (lines_cnt t.length t 0 (Nat.le_refl _)) ht
  generalize linesOf t 0 = Ls at *
  have HB1 := Lib.hid hb1
  clear hr hr1 hc1 CL hb1
  go_loopw [10] (fun i wr => ∃ (k : Nat), k ≤ Ls.length ∧ i = .int .i64 k ∧ Hid (Below w1.heap.size w1 wr)) (fun i _ => Ls.length - (intOf i).toNat)
  case atStart => exact ⟨0, by omega, rfl, Lib.hid (Below.refl _ _)⟩
  case round =>
    obtain ⟨k, hk, rfl, HB⟩ := hrel
    by_cases hlt : k < Ls.length
    · have q0 : (k : Int) < (Ls.length : Int) := by omega
      obtain ⟨g, rfl, hg, c0, c1, c2⟩ := hcells.out k hlt
      rw [← HB.out.cell (by exact hg)] at c0 c1 c2
      generalize Ls[k] = x at *
      go_upto_region 5 with (go_at_call 195; refine (CC.out _ _).mono ?_; rintro e w2 ⟨d, ok, rfl, rfl⟩)
      rcases ok with _ | _
      · go_wp2
        refine ⟨⟨k + 1, by omega, by simp, Lib.hid ?_⟩, by simp [intOf]; omega⟩
        exact HB.out.alloc HB.out.size _
      · go_wp2
        go_ret
        exact ⟨⟨d, rfl⟩, nextB HB1.out (HB.out.alloc HB.out.size _)⟩
    · have q0 : ¬ (k : Int) < (Ls.length : Int) := by omega
      go_wp2
      go_ret
      exact ⟨⟨[], rfl⟩, nextB HB1.out HB.out⟩
end Go.Proofs.YtndpcphmndfajaaGreatDoor

namespace Go.Proofs.YtndpcphmndfajaaGreatDoor
open Go.RowKit
set_option linter.unusedVariables false

/-- the pieces are the text -/
def pcsT (L : List Pc) : List UInt8 := (L.map (·.t)).flatten
theorem pcsT_append (a b : List Pc) : pcsT (a ++ b) = pcsT a ++ pcsT b := by simp [pcsT]
theorem step_text (st cnt : Nat) (s : List UInt8) (r : Nat × Nat × List Pc) (h : stepS st cnt s = some r) : pcsT r.2.2 = s := by
  unfold stepS at h
  split at h
  · split at h
    · cases h; simp [pcsT, markL]
    · cases h
  · split at h
    · cases h; rename_i h2; subst h2; rfl
    · split at h
      · cases h; simp [pcsT, sayP]
      · split at h
        · cases h; simp [pcsT, markL]
        · cases h
theorem endP_text (e : List UInt8) : pcsT (endP e) = e := by
  unfold endP
  split
  · rename_i h; subst h; rfl
  · simp [pcsT, markL]
theorem walk_text : ∀ (L : List Ln) (st cnt : Nat) (acc : List Pc) (st' cnt' : Nat) (acc' : List Pc), walkS L st cnt acc = .ok (st', cnt', acc') → pcsT acc' = pcsT acc ++ lnAll L
  | [], st, cnt, acc, st', cnt', acc', h => by
    rw [walkS] at h
    injection h with h
    cases h
    simp [lnAll]
  | x :: r, st, cnt, acc, st', cnt', acc', h => by
    rw [walkS] at h
    rcases hS : stepS st cnt x.t with _ | ⟨s1, c1, ps⟩
    · rw [hS] at h; cases h
    · rw [hS] at h
      have := walk_text r s1 c1 _ _ _ _ h
      rw [this, pcsT_append, pcsT_append, step_text _ _ _ _ hS, endP_text]
      simp [lnAll]
theorem read_text (t : List UInt8) (cnt : Nat) (acc : List Pc) (h : readS t = .ok (cnt, acc)) : pcsT acc = t := by
  unfold readS at h
  split at h
  · cases h
  · rename_i st c a hw
    split at h
    · cases h
    · injection h with h
      cases h
      have := walk_text _ _ _ _ _ _ _ hw
      rw [this, (lines_ok t.length t 0 (Nat.le_refl _)).1]
      rfl
theorem walk_count : ∀ (L : List Ln) (st cnt : Nat) (acc : List Pc) (st' cnt' : Nat) (acc' : List Pc), walkS L st cnt acc = .ok (st', cnt', acc') → acc'.length ≤ acc.length + 2 * L.length
  | [], st, cnt, acc, st', cnt', acc', h => by
    rw [walkS] at h
    injection h with h
    cases h
    simp
  | x :: r, st, cnt, acc, st', cnt', acc', h => by
    rw [walkS] at h
    rcases hS : stepS st cnt x.t with _ | ⟨s1, c1, ps⟩
    · rw [hS] at h; cases h
    · rw [hS] at h
      have h1 := walk_count r s1 c1 _ _ _ _ h
      have h2 : ps.length ≤ 1 := by
        unfold stepS at hS
        repeat' split at hS
        all_goals (first | (cases hS; done) | (cases hS; simp))
      have h3 : (endP x.e).length ≤ 1 := by unfold endP; split <;> simp
      simp only [List.length_append, List.length_cons] at h1 ⊢
      omega
theorem read_count (t : List UInt8) (cnt : Nat) (acc : List Pc) (h : readS t = .ok (cnt, acc)) : acc.length ≤ 2 * t.length := by
  unfold readS at h
  split at h
  · cases h
  · rename_i st c a hw
    split at h
    · cases h
    · injection h with h
      cases h
      have h1 := walk_count _ _ _ _ _ _ _ hw
      have h2 := lines_cnt t.length t 0 (Nat.le_refl _)
      simp at h1
      omega
theorem srtR_whole (t : List UInt8) (acc : List Pc) (h : srtR t = .ok acc) : txP acc = t ∧ acc.length ≤ 5 * t.length := by
  unfold srtR at h
  rcases hS : readS t with a | ⟨cnt, ac⟩
  · rw [hS] at h; cases h
  · rw [hS] at h
    cases h
    have h1 := read_text t cnt _ hS
    have h2 := read_count t cnt _ hS
    exact ⟨h1, by omega⟩
end Go.Proofs.YtndpcphmndfajaaGreatDoor

namespace Go.Proofs.YtndpcphmndfajaaGreatDoor
open Go.RowKit
set_option linter.unusedVariables false
set_option linter.unusedSimpArgs false

theorem ln_le : ∀ (L : List Ln) (x : Ln), x ∈ L → x.t.length ≤ (lnAll L).length
  | y :: r, x, h => by
    have e1 : lnAll (y :: r) = y.t ++ y.e ++ lnAll r := by simp [lnAll]
    rw [e1, List.length_append, List.length_append]
    rcases List.mem_cons.1 h with rfl | h
    · omega
    · have := ln_le r x h
      omega
theorem trimP_le (s p : List UInt8) : (Lib.trimPrefix s p).length ≤ s.length := by
  unfold Lib.trimPrefix
  split
  · rw [List.length_drop]; omega
  · exact Nat.le_refl _
theorem cutq_any (s p : List UInt8) (w : World) : Calls Tryz.prog 195 #[.string ⟨s.toArray⟩, .string ⟨p.toArray⟩] w fun e w' => ∃ (d : List UInt8) (b : Bool), e = .returned (.tuple #[.string ⟨d.toArray⟩, .bool b]) ∧ d.length ≤ s.length ∧ w = w' :=
  (Tryz.strings_CutPrefix ⟨s.toArray⟩ ⟨p.toArray⟩ w).mono fun e w' ⟨h1, h2⟩ => ⟨_, _, h1, trimP_le s p, h2.symm⟩
theorem cuts_any (s p : List UInt8) (w : World) (hs : s.length ≤ 1000000) : Calls Tryz.prog 196 #[.string ⟨s.toArray⟩, .string ⟨p.toArray⟩] w fun e w' => ∃ (d : List UInt8) (b : Bool), e = .returned (.tuple #[.string ⟨d.toArray⟩, .bool b]) ∧ w = w' :=
  (Tryz.strings_CutSuffix ⟨s.toArray⟩ ⟨p.toArray⟩ w (by show s.toArray.size ≤ _; rw [List.size_toArray]; omega)).mono fun e w' ⟨h1, h2⟩ => ⟨_, _, h1, h2.symm⟩

set_option maxHeartbeats 2000000 in
set_option maxRecDepth 100000 in
theorem ldecl_any (t : List UInt8) (w : World) (ht : t.length ≤ 1000000) : Calls Tryz.prog 120 #[.string ⟨t.toArray⟩] w fun e w' => (∃ d : List UInt8, e = .returned (.string ⟨d.toArray⟩)) ∧ Below w.heap.size w w' := by
  have CL := Lib.hid (fun w => lines_any t w ht)
  have CC := Lib.hid (fun (s : List UInt8) w => cutq_any s [91, 99, 115, 58] w)
  have CS := Lib.hid (fun (s : List UInt8) w (h : s.length ≤ 1000000) => cuts_any s [93] w h)
  go_enter Tryz.func120, Tryz.ntmps120
  go_upto_region 2 with (go_at_call 194; refine (CL.out _).mono ?_; rintro e w1 ⟨v, rfl, hr1, hb1⟩; obtain ⟨a, cap, rfl, hc1, hr⟩ := hr1.view)
  have hcells : Hid (∀ i (h : i < (linesOf t 0).length), ∃ g, a = some ⟨g, 0, none⟩ ∧ g < w1.heap.size ∧ w1.cell? ⟨g, i * 3, none⟩ = some (.string ⟨(linesOf t 0)[i].t.toArray⟩) ∧ w1.cell? ⟨g, i * 3 + 1, none⟩ = some (.string ⟨(linesOf t 0)[i].e.toArray⟩) ∧ w1.cell? ⟨g, i * 3 + 2, none⟩ = some (.int .i64 (linesOf t 0)[i].a)) := Lib.hid (fun i h => by
    have h' : i < ((linesOf t 0).map lnR).length := by simpa using h
    rcases hr with h0 | ⟨g, ha, hbs, hg, hcell⟩
    · omega
    · have e9 : ((linesOf t 0).map lnR)[i] = lnR (linesOf t 0)[i] := by simp
      have k0 := hcell i h' 0 (by decide)
      have k1 := hcell i h' 1 (by decide)
      have k2 := hcell i h' 2 (by decide)
      rw [e9] at k0 k1 k2
      exact ⟨g, ha, hg, k0, k1, k2⟩)


  have hnl : (linesOf t 0).length ≤ 1000000 := Nat.le_trans (lines_cnt t.length t 0 (Nat.le_refl _)) ht
  have HLN := Lib.hid (fun (x : Ln) (hx : x ∈ linesOf t 0) => (show x.t.length ≤ 1000000 from Nat.le_trans (ln_le _ x hx) (by rw [(lines_ok t.length t 0 (Nat.le_refl _)).1]; exact ht)))
  generalize linesOf t 0 = Ls at *
  have HB1 := Lib.hid hb1
  clear hr hr1 hc1 CL hb1
  go_loopw [12] (fun i wr => ∃ (k : Nat), k ≤ Ls.length ∧ i = .int .i64 k ∧ Hid (Below w1.heap.size w1 wr)) (fun i _ => Ls.length - (intOf i).toNat)
  case atStart => exact ⟨0, by omega, rfl, Lib.hid (Below.refl _ _)⟩
  case round =>
    obtain ⟨k, hk, rfl, HB⟩ := hrel
    by_cases hlt : k < Ls.length
    · have q0 : (k : Int) < (Ls.length : Int) := by omega
      obtain ⟨g, rfl, hg, c0, c1, c2⟩ := hcells.out k hlt
      rw [← HB.out.cell (by exact hg)] at c0 c1 c2
      have hxl := HLN.out _ (List.getElem_mem hlt)
      generalize Ls[k] = x at *
      go_upto_region 5 with (go_at_call 195; refine (CC.out _ _).mono ?_; rintro e w2 ⟨d, ok, rfl, hdl, rfl⟩)
      have hdl2 : d.length ≤ 1000000 := by omega
      rcases ok with _ | _
      · go_wp2
        refine ⟨⟨k + 1, by omega, by simp, Lib.hid ?_⟩, by simp [intOf]; omega⟩
        exact HB.out.alloc HB.out.size _
      · go_upto_region 7 with (go_at_call 196; refine (CS.out d _ hdl2).mono ?_; rintro e w3 ⟨d3, ok3, rfl, rfl⟩)
        rcases ok3 with _ | _
        · go_wp2
          refine ⟨⟨k + 1, by omega, by simp, Lib.hid ?_⟩, by simp [intOf]; omega⟩
          exact HB.out.alloc HB.out.size _
        · go_wp2
          go_ret
          exact ⟨⟨d3, rfl⟩, nextB HB1.out (HB.out.alloc HB.out.size _)⟩
    · have q0 : ¬ (k : Int) < (Ls.length : Int) := by omega
      go_wp2
      go_ret
      exact ⟨⟨[], rfl⟩, nextB HB1.out HB.out⟩

set_option maxRecDepth 100000 in
theorem sndecl_any (k : Nat) (t : List UInt8) (w : World) (ht : t.length ≤ 1000000) (hk : k ≤ 7) : Calls Tryz.prog 55 #[.int .i64 k, .string ⟨t.toArray⟩] w fun e w' => (∃ d : List UInt8, e = .returned (.string ⟨d.toArray⟩)) ∧ Below w.heap.size w w' := by
  have C1 := Lib.hid (fun w => cdecl_any t w ht)
  have C2 := Lib.hid (fun w => sdecl_any t w ht)
  have C3 := Lib.hid (fun w => ldecl_any t w ht)
  by_cases h4 : k = 4
  · subst h4
    go_enter Tryz.func55, Tryz.ntmps55
    go_wp2_with (go_at_call 118; refine (C1.out _).mono ?_; rintro e w1 ⟨⟨d, rfl⟩, hb1⟩)
    go_ret
    exact ⟨⟨d, rfl⟩, hb1⟩
  by_cases h6 : k = 6
  · subst h6
    go_enter Tryz.func55, Tryz.ntmps55
    go_wp2_with (go_at_call 119; refine (C2.out _).mono ?_; rintro e w1 ⟨⟨d, rfl⟩, hb1⟩)
    go_ret
    exact ⟨⟨d, rfl⟩, hb1⟩
  by_cases h7 : k = 7
  · subst h7
    go_enter Tryz.func55, Tryz.ntmps55
    go_wp2_with (go_at_call 120; refine (C3.out _).mono ?_; rintro e w1 ⟨⟨d, rfl⟩, hb1⟩)
    go_ret
    exact ⟨⟨d, rfl⟩, hb1⟩
  · have t4 : ((k : Int) == 4) = false := by simp; omega
    have t6 : ((k : Int) == 6) = false := by simp; omega
    have t7 : ((k : Int) == 7) = false := by simp; omega
    go_enter Tryz.func55, Tryz.ntmps55
    go_wp2
    go_ret
    exact ⟨⟨[], rfl⟩, Below.refl _ _⟩
end Go.Proofs.YtndpcphmndfajaaGreatDoor
