/- Layer 12 (tail): a tail as plain data; its texts, its room, its check, walked. -/
import Derived.Test.YtlgkbkbghheokaaStrs
import Derived.Test.YtlgkbkbghheokaaRecs
import Derived.Test.YtlgkbkbghheokaaOctLaw
import Derived.Lib.Bytealg
import Derived.Lib.IndexLaws
import Derived.Lib.Repeat
namespace Go.Proofs.Ytlgkbkbghheokaa
open Go.RowKit
set_option linter.unusedVariables false

/-- a tail: five texts, the track, the genre -/
structure Tl where
  t0 : List UInt8
  t1 : List UInt8
  t2 : List UInt8
  t3 : List UInt8
  t4 : List UInt8
  tr : UInt8
  ge : UInt8
def tlR (t : Tl) : List Value := [.string ⟨t.t0.toArray⟩, .string ⟨t.t1.toArray⟩, .string ⟨t.t2.toArray⟩, .string ⟨t.t3.toArray⟩, .string ⟨t.t4.toArray⟩, .int .u8 t.tr.toNat, .int .u8 t.ge.toNat]
def tlV (t : Tl) : Value := .agg (tlR t).toArray
def txV (t : Tl) : Value := .agg #[.string ⟨t.t0.toArray⟩, .string ⟨t.t1.toArray⟩, .string ⟨t.t2.toArray⟩, .string ⟨t.t3.toArray⟩, .string ⟨t.t4.toArray⟩]
def texts (t : Tl) : List (List UInt8) := [t.t0, t.t1, t.t2, t.t3, t.t4]
def last4 (tr : UInt8) : Nat := if tr = 0 then 30 else 28
def rooms (tr : UInt8) : List Nat := [30, 30, 30, 4, last4 tr]
def rmV (tr : UInt8) : Value := .agg #[.int .i64 30, .int .i64 30, .int .i64 30, .int .i64 4, .int .i64 (last4 tr : Nat)]
/-- what stands ahead of the first 0 -/
def cut0 (s : List UInt8) : List UInt8 := s.takeWhile (fun c => c != 0)
theorem idx_spec : ∀ s : List UInt8, (Lib.indexByte s 0 = -1 ∧ cut0 s = s ∧ s.contains 0 = false) ∨ (∃ k : Nat, Lib.indexByte s 0 = k ∧ k < s.length ∧ s.take k = cut0 s ∧ s.contains 0 = true)
  | [] => .inl ⟨rfl, rfl, rfl⟩
  | c :: s => by
    by_cases hc : c = 0
    · subst hc
      right
      exact ⟨0, by simp [Lib.indexByte], by simp, by simp [cut0], by simp⟩
    · have hb : (c == 0) = false := by simpa using hc
      rcases idx_spec s with ⟨h1, h2, h3⟩ | ⟨k, h1, h2, h3, h4⟩
      · left
        refine ⟨by simp [Lib.indexByte, hb, h1], ?_, ?_⟩
        · unfold cut0 at h2 ⊢
          rw [List.takeWhile_cons, if_pos (by simpa using hc), h2]
        · simp only [List.contains_cons, h3, Bool.or_false]
          simpa using fun e : (0 : UInt8) = c => hc e.symm
      · right
        refine ⟨k + 1, ?_, by simpa using h2, ?_, by simp only [List.contains_cons, h4, Bool.or_true]⟩
        · have : ¬ ((k : Int) = -1) := by omega
          simp [Lib.indexByte, hb, h1, this]
        · unfold cut0 at h3 ⊢
          rw [List.takeWhile_cons, if_pos (by simpa using hc), List.take_succ_cons, h3]

set_option maxRecDepth 100000 in
theorem widths_any (w : World) : Calls Try.prog 53 #[] w fun e w' => e = .returned (rmV 0) ∧ Below w.heap.size w w' := by
  go_enter Try.func53, Try.ntmps53
  go_wp2
  exact end_cell rfl rfl rfl (at_a0 _ _ _) Try.underlying75 rfl (by kernel_rfl) ⟨rfl, (Below.refl _ _).alloc (Nat.le_refl _) _⟩
set_option maxRecDepth 100000 in
theorem list_any (t : Tl) (w : World) : Calls Try.prog 45 #[txV t] w fun e w' => e = .returned (txV t) ∧ Below w.heap.size w w' := by
  unfold txV
  go_enter Try.func45, Try.ntmps45
  go_wp2
  exact end_cell rfl rfl rfl (at_a2 _ _ _ _) Try.underlying26 rfl (by kernel_rfl) ⟨rfl, ((Below.refl _ _).alloc (Nat.le_refl _) _).alloc (by simp) _⟩
set_option maxHeartbeats 2000000 in
set_option maxRecDepth 100000 in
theorem room_any (t : Tl) (w : World) : Calls Try.prog 44 #[tlV t] w fun e w' => e = .returned (rmV t.tr) ∧ Below w.heap.size w w' := by
  have WI := Lib.hid widths_any
  unfold tlV tlR rmV at *
  have hz0 : ((last4 0 : Nat) : Int) = 30 := rfl
  rw [hz0] at WI
  clear hz0
  by_cases h : t.tr = 0
  · have h1 : (((t.tr.toNat : Nat) : Int) != 0) = false := by rw [h]; rfl
    have h2 : last4 t.tr = 30 := by rw [h]; rfl
    rw [h2]
    clear h h2
    go_enter Try.func44, Try.ntmps44
    go_upto_region 2 with (go_at_call 53; (with_reducible refine (WI.out _).mono ?_); rintro e w1 ⟨rfl, hb1⟩; have X1 := Lib.hid (block_below (at_a1 w _ _ _) hb1); have F1 := Lib.hid (block_below (at_a2 w _ _ _) hb1); have K1 := Lib.hid (below_a2 hb1); clear hb1)
    have X2 := Lib.hid (block_below X1.out ((Below.refl _ w1).alloc (Nat.le_refl _) (.cells #[.int .i64 30, .int .i64 30, .int .i64 30, .int .i64 4, .int .i64 30] 75)))
    have F2 := Lib.hid (block_below F1.out ((Below.refl _ w1).alloc (Nat.le_refl _) (.cells #[.int .i64 30, .int .i64 30, .int .i64 30, .int .i64 4, .int .i64 30] 75)))
    have B2 := Lib.hid (at_a0 w1 #[.int .i64 30, .int .i64 30, .int .i64 30, .int .i64 4, .int .i64 30] 75)
    have K2 := Lib.hid (K1.out.alloc K1.out.size (.cells #[.int .i64 30, .int .i64 30, .int .i64 30, .int .i64 4, .int .i64 30] 75))
    have hz := (Array.getElem?_eq_some_iff.1 F1.out).1
    have HW := Lib.hid (show w.heap.size ≤ w1.heap.size from K1.out.size)
    generalize w1.alloc (.cells #[.int .i64 30, .int .i64 30, .int .i64 30, .int .i64 4, .int .i64 30] 75) = V at *
    generalize w1.heap.size = vb at *
    clear X1 F1 K1
    have a0 := cell_at (j := 0) X2.out; have a1 := cell_at (j := 1) X2.out; have a2 := cell_at (j := 2) X2.out; have a3 := cell_at (j := 3) X2.out; have a4 := cell_at (j := 4) X2.out; have a5 := cell_at (j := 5) X2.out; have a6 := cell_at (j := 6) X2.out; simp only [List.getElem?_toArray, List.getElem?_cons_zero, List.getElem?_cons_succ] at a0 a1 a2 a3 a4 a5 a6
    have b0 := cell_at (j := 0) F2.out; have b1 := cell_at (j := 1) F2.out; have b2 := cell_at (j := 2) F2.out; have b3 := cell_at (j := 3) F2.out; have b4 := cell_at (j := 4) F2.out; have bf0 := free_at (j := 0) F2.out; have bf1 := free_at (j := 1) F2.out; have bf2 := free_at (j := 2) F2.out; have bf3 := free_at (j := 3) F2.out; have bf4 := free_at (j := 4) F2.out; simp only [List.getElem?_toArray, List.getElem?_cons_zero, List.getElem?_cons_succ] at b0 b1 b2 b3 b4
    have c0 := cell_at (j := 0) B2.out; have c1 := cell_at (j := 1) B2.out; have c2 := cell_at (j := 2) B2.out; have c3 := cell_at (j := 3) B2.out; have c4 := cell_at (j := 4) B2.out; have cf0 := free_at (j := 0) B2.out; have cf1 := free_at (j := 1) B2.out; have cf2 := free_at (j := 2) B2.out; have cf3 := free_at (j := 3) B2.out; have cf4 := free_at (j := 4) B2.out; simp only [List.getElem?_toArray, List.getElem?_cons_zero, List.getElem?_cons_succ] at c0 c1 c2 c3 c4
    go_wp2
    refine end_cell rfl rfl rfl (store5 F2.out rfl) Try.underlying75 rfl (by kernel_rfl) ⟨rfl, ?_⟩
    exact ((((K2.out.setCell (by simp) _).setCell (by simp) _).setCell (by simp) _).setCell (by simp) _).setCell (by simp) _
  · have h1 : (((t.tr.toNat : Nat) : Int) != 0) = true := by
      simp
      intro e
      apply h
      rw [u8_eq]
      exact e
    have h2 : last4 t.tr = 28 := by unfold last4; rw [if_neg h]
    rw [h2]
    clear h h2
    go_enter Try.func44, Try.ntmps44
    go_upto_region 2 with (go_at_call 53; (with_reducible refine (WI.out _).mono ?_); rintro e w1 ⟨rfl, hb1⟩; have X1 := Lib.hid (block_below (at_a1 w _ _ _) hb1); have F1 := Lib.hid (block_below (at_a2 w _ _ _) hb1); have K1 := Lib.hid (below_a2 hb1); clear hb1)
    have X2 := Lib.hid (block_below X1.out ((Below.refl _ w1).alloc (Nat.le_refl _) (.cells #[.int .i64 30, .int .i64 30, .int .i64 30, .int .i64 4, .int .i64 30] 75)))
    have F2 := Lib.hid (block_below F1.out ((Below.refl _ w1).alloc (Nat.le_refl _) (.cells #[.int .i64 30, .int .i64 30, .int .i64 30, .int .i64 4, .int .i64 30] 75)))
    have B2 := Lib.hid (at_a0 w1 #[.int .i64 30, .int .i64 30, .int .i64 30, .int .i64 4, .int .i64 30] 75)
    have K2 := Lib.hid (K1.out.alloc K1.out.size (.cells #[.int .i64 30, .int .i64 30, .int .i64 30, .int .i64 4, .int .i64 30] 75))
    have hz := (Array.getElem?_eq_some_iff.1 F1.out).1
    have HW := Lib.hid (show w.heap.size ≤ w1.heap.size from K1.out.size)
    generalize w1.alloc (.cells #[.int .i64 30, .int .i64 30, .int .i64 30, .int .i64 4, .int .i64 30] 75) = V at *
    generalize w1.heap.size = vb at *
    clear X1 F1 K1
    have a0 := cell_at (j := 0) X2.out; have a1 := cell_at (j := 1) X2.out; have a2 := cell_at (j := 2) X2.out; have a3 := cell_at (j := 3) X2.out; have a4 := cell_at (j := 4) X2.out; have a5 := cell_at (j := 5) X2.out; have a6 := cell_at (j := 6) X2.out; simp only [List.getElem?_toArray, List.getElem?_cons_zero, List.getElem?_cons_succ] at a0 a1 a2 a3 a4 a5 a6
    have b0 := cell_at (j := 0) F2.out; have b1 := cell_at (j := 1) F2.out; have b2 := cell_at (j := 2) F2.out; have b3 := cell_at (j := 3) F2.out; have b4 := cell_at (j := 4) F2.out; have bf0 := free_at (j := 0) F2.out; have bf1 := free_at (j := 1) F2.out; have bf2 := free_at (j := 2) F2.out; have bf3 := free_at (j := 3) F2.out; have bf4 := free_at (j := 4) F2.out; simp only [List.getElem?_toArray, List.getElem?_cons_zero, List.getElem?_cons_succ] at b0 b1 b2 b3 b4
    have c0 := cell_at (j := 0) B2.out; have c1 := cell_at (j := 1) B2.out; have c2 := cell_at (j := 2) B2.out; have c3 := cell_at (j := 3) B2.out; have c4 := cell_at (j := 4) B2.out; have cf0 := free_at (j := 0) B2.out; have cf1 := free_at (j := 1) B2.out; have cf2 := free_at (j := 2) B2.out; have cf3 := free_at (j := 3) B2.out; have cf4 := free_at (j := 4) B2.out; simp only [List.getElem?_toArray, List.getElem?_cons_zero, List.getElem?_cons_succ] at c0 c1 c2 c3 c4
    go_wp2
    refine end_cell rfl rfl rfl (store5 ((heap_set_other _ (by omega)).trans F2.out) rfl) Try.underlying75 rfl (by kernel_rfl) ⟨rfl, ?_⟩
    exact (((((K2.out.setCell HW.out _).setCell (by simp) _).setCell (by simp) _).setCell (by simp) _).setCell (by simp) _).setCell (by simp) _

/-- what a check of texts and their rooms finds, the first of them being number i -/
def tckL : List (List UInt8 × Nat) → Nat → Int × Int
  | [], _ => (0, 0)
  | (s, r) :: l, i => if s.contains 0 = true then (5, i) else if r < s.length then (4, i) else tckL l (i + 1)
def pairs (t : Tl) : List (List UInt8 × Nat) := [(t.t0, 30), (t.t1, 30), (t.t2, 30), (t.t3, 4), (t.t4, last4 t.tr)]
def tcheck (t : Tl) : Int × Int := tckL (pairs t) 0
theorem idx_yes {s : List UInt8} (h : s.contains 0 = true) : ∃ k : Nat, Lib.indexByte s 0 = k ∧ k < s.length ∧ s.take k = cut0 s := by
  rcases idx_spec s with ⟨_, _, h3⟩ | ⟨k, h1, h2, h3, _⟩
  · rw [h] at h3; cases h3
  · exact ⟨k, h1, h2, h3⟩
theorem idx_no {s : List UInt8} (h : s.contains 0 = false) : Lib.indexByte s 0 = -1 ∧ cut0 s = s := by
  rcases idx_spec s with ⟨h1, h2, _⟩ | ⟨k, _, _, _, h4⟩
  · exact ⟨h1, h2⟩
  · rw [h] at h4; cases h4
theorem index5 (a0 a1 a2 a3 a4 : List UInt8) (j : Nat) (hj : j < 5) (w : World) :
    (Instr.index 26 (.agg #[.string ⟨a0.toArray⟩, .string ⟨a1.toArray⟩, .string ⟨a2.toArray⟩, .string ⟨a3.toArray⟩, .string ⟨a4.toArray⟩]) (.int .i64 (j : Int))).run Try.prog w = .ok (.string ⟨([a0, a1, a2, a3, a4][j]'hj).toArray⟩) w := by
  rcases (by omega : j = 0 ∨ j = 1 ∨ j = 2 ∨ j = 3 ∨ j = 4) with h | h | h | h | h <;> subst h
  · kernel_rfl
  · kernel_rfl
  · kernel_rfl
  · kernel_rfl
  · kernel_rfl
end Go.Proofs.Ytlgkbkbghheokaa
