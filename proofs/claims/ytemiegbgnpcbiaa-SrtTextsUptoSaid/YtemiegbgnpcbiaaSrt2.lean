/- Subtitles (srt): what tells each line's pieces, walked. -/
import Derived.Test.YtemiegbgnpcbiaaSrt1
namespace Go.Proofs.Ytemiegbgnpcbiaa
open Go.RowKit
set_option linter.unusedVariables false

/-- what may stand next, and how many blocks there were, in their boxes -/
def Boxes (w : World) (bs bc st cnt : Nat) : Prop := w.heap[bs]? = some (.cells #[.int .i64 st] 3 (0, 0)) ∧ w.heap[bc]? = some (.cells #[.int .i64 cnt] 3 (0, 0))
theorem Boxes.lt {w : World} {bs bc st cnt : Nat} (h : Boxes w bs bc st cnt) : bs < w.heap.size ∧ bc < w.heap.size := ⟨(Array.getElem?_eq_some_iff.1 h.1).1, (Array.getElem?_eq_some_iff.1 h.2).1⟩
theorem Boxes.below {w w' : World} {bs bc st cnt : Nat} (h : Boxes w bs bc st cnt) (hb : Below w.heap.size w w') : Boxes w' bs bc st cnt := ⟨block_below h.1 hb, block_below h.2 hb⟩
theorem Boxes.alloc {w : World} {bs bc st cnt : Nat} (h : Boxes w bs bc st cnt) (o : Obj) : Boxes (w.alloc o) bs bc st cnt := ⟨(heap_alloc_old w o h.lt.1).trans h.1, (heap_alloc_old w o h.lt.2).trans h.2⟩
theorem Boxes.setS {w : World} {bs bc st cnt : Nat} (h : Boxes w bs bc st cnt) (hne : bs ≠ bc) (n : Nat) : Boxes (w.setCell ⟨bs, 0, none⟩ (.int .i64 n)) bs bc n cnt :=
  ⟨setCell_at h.1, (heap_set_other _ (fun e => hne e.symm)).trans h.2⟩
theorem Boxes.setC {w : World} {bs bc st cnt : Nat} (h : Boxes w bs bc st cnt) (hne : bs ≠ bc) (n : Nat) : Boxes (w.setCell ⟨bc, 0, none⟩ (.int .i64 n)) bs bc st n :=
  ⟨(heap_set_other _ hne).trans h.1, setCell_at h.2⟩
/-- only two blocks turn -/
structure Two (bs bc : Nat) (w w' : World) : Prop where
  os : w'.os = w.os
  tape : w'.tape = w.tape
  output : w'.output = w.output
  size : w.heap.size ≤ w'.heap.size
  block : ∀ k, k < w.heap.size → k ≠ bs → k ≠ bc → w'.heap[k]? = w.heap[k]?
theorem Two.trans {bs bc : Nat} {u v w : World} (h : Two bs bc u v) (k : Two bs bc v w) : Two bs bc u w :=
  ⟨k.os.trans h.os, k.tape.trans h.tape, k.output.trans h.output, Nat.le_trans h.size k.size, fun j hj h1 h2 => (k.block j (Nat.lt_of_lt_of_le hj h.size) h1 h2).trans (h.block j hj h1 h2)⟩
theorem Two.of_below {bs bc : Nat} {w w' : World} (h : Below w.heap.size w w') : Two bs bc w w' := ⟨h.os, h.tape, h.output, h.size, fun k hk _ _ => h.block k hk⟩
theorem Two.setS {bs bc : Nat} (w : World) (v : Value) : Two bs bc w (w.setCell ⟨bs, 0, none⟩ v) := ⟨rfl, rfl, rfl, by simp [World.setCell], fun k _ h1 _ => heap_set_other v h1⟩
theorem Two.setC {bs bc : Nat} (w : World) (v : Value) : Two bs bc w (w.setCell ⟨bc, 0, none⟩ v) := ⟨rfl, rfl, rfl, by simp [World.setCell], fun k _ _ h2 => heap_set_other v h2⟩
theorem Two.alloc {bs bc : Nat} (w : World) (o : Obj) : Two bs bc w (w.alloc o) := Two.of_below ((Below.refl _ _).alloc (Nat.le_refl _) o)
theorem Two.below {bs bc B : Nat} {w w' : World} (h : Two bs bc w w') (h1 : B ≤ bs) (h2 : B ≤ bc) (h3 : B ≤ w.heap.size) : Below B w w' :=
  ⟨h.os, h.tape, h.output, h.size, fun k hk => h.block k (by omega) (by omega) (by omega)⟩
theorem Two.drew {bs bc : Nat} {w w' : World} (h : Two bs bc w w') : Two bs bc w w'.drew := ⟨h.os, h.tape, h.output, h.size, h.block⟩
theorem Two.refl (bs bc : Nat) (w : World) : Two bs bc w w := ⟨rfl, rfl, rfl, Nat.le_refl _, fun _ _ _ _ => rfl⟩
theorem Recs.two {bs bc : Nat} {w w' : World} {base e size : Nat} {v : Value} {L : List (List Value)} (h : Recs w base e size v L) (k : Two bs bc w w') (h1 : bs < base) (h2 : bc < base) : Recs w' base e size v L := by
  refine ⟨h.1, h.2.1, ?_⟩
  rcases h.2.2 with hn | ⟨g, cap, cur, hv, hbs, hg, rest⟩
  · exact .inl hn
  · exact .inr ⟨g, cap, cur, hv, hbs, (k.block g (Array.getElem?_eq_some_iff.1 hg).1 (by omega) (by omega)).trans hg, rest⟩

/-- what was told of a line: nothing, or one piece -/
def Told (w : World) (base : Nat) (v : Value) (ps : List Pc) : Prop :=
  (ps = [] ∧ v = .slice none 0 0) ∨ ∃ p g, ps = [p] ∧ v = .slice (some ⟨g, 0, none⟩) 1 1 ∧ base ≤ g ∧ w.heap[g]? = some (.cells (pcR p).toArray 34 (0, 0))
def PiecesSay (bs bc st cnt : Nat) (s : List UInt8) (w : World) (e : Ending) (w' : World) : Prop :=
  match stepS st cnt s with
  | none => e = .returned (.tuple #[.slice none 0 0, .bool false]) ∧ Two bs bc w w'
  | some (st', cnt', ps) => ∃ v, e = .returned (.tuple #[v, .bool true]) ∧ Told w' w.heap.size v ps ∧ Boxes w' bs bc st' cnt' ∧ Two bs bc w w'

theorem mark_one (s : List UInt8) (w : World) (g : Nat) (hg : g = w.heap.size) (hs : s.length ≤ 1000000000) :
    Calls Try.prog 14 #[.slice (some ⟨g, 0, none⟩) 1 1] (w.alloc (.cells #[.string ⟨s.toArray⟩] 9)) fun e w' => e = .returned (.agg #[.bool true, .string ⟨#[109, 97, 114, 107]⟩, .string ⟨s.toArray⟩]) ∧
      Below (w.alloc (.cells #[.string ⟨s.toArray⟩] 9)).heap.size (w.alloc (.cells #[.string ⟨s.toArray⟩] 9)) w' := by
  subst hg
  have h := mark_any (some ⟨w.heap.size, 0, none⟩) 1 1 [s] _ (StrsAt.one w s 9) (by decide) (by decide) (by simpa using hs)
  have e : [s].flatten = s := by simp
  rw [e] at h
  exact h

set_option maxHeartbeats 2000000 in
set_option maxRecDepth 100000 in
theorem pieces_any (bs bc st cnt : Nat) (s : List UInt8) (w : World) (h : Boxes w bs bc st cnt) (hne : bs ≠ bc) (hs : s.length ≤ 1000000000) (hst : st ≤ 2) (hcnt : cnt ≤ 1000000000) :
    Calls Try.prog 52 #[.string ⟨s.toArray⟩, .pointer (some ⟨bs, 0, none⟩), .pointer (some ⟨bc, 0, none⟩)] w (PiecesSay bs bc st cnt s w) := by
  have HB := Lib.hid h
  have CM := Lib.hid (fun w g hg => mark_one s w g hg hs)
  have c0 := cell_at (j := 0) h.1
  have c1 := cell_at (j := 0) h.2
  have f0 := free_at (j := 0) h.1
  have f1 := free_at (j := 0) h.2
  simp only [List.getElem?_toArray, List.getElem?_cons_zero] at c0 c1
  have hlt := h.lt
  unfold PiecesSay stepS
  by_cases h1 : st = 1
  · subst h1
    rw [if_pos rfl]
    have CT := Lib.hid (fun w => times_any s w hs)
    unfold TimesSays at CT
    rcases hT : timesL s with _ | _
    · rw [hT] at CT
      simp only [Bool.false_eq_true, if_false]
      clear hT h
      go_enter Try.func52, Try.ntmps52
      go_wp2_with (go_at_call 53; refine (CT.out _).mono ?_; rintro e w1 ⟨rfl, hb1⟩)
      go_ret2
      exact ⟨rfl, Two.of_below hb1⟩
    · rw [hT] at CT
      simp only [if_true]
      clear hT h
      go_enter Try.func52, Try.ntmps52
      go_wp2_with (first | (go_at_call 53; refine (CT.out _).mono ?_; rintro e w1 ⟨rfl, hb1⟩; have HX := Lib.hid (HB.out.below hb1); have d0 := cell_at (j := 0) HX.out.1; have g0 := free_at (j := 0) HX.out.1; simp only [List.getElem?_toArray, List.getElem?_cons_zero] at d0) | (go_at_call 14; refine (CM.out _ _ (by simp)).mono ?_; rintro e w2 ⟨rfl, hb2⟩))
      go_ret2
      have hT := (Two.of_below (bs := bs) (bc := bc) hb1).trans ((Two.setS w1 (.int .i64 (2 : Nat))).trans ((Two.alloc _ _).trans (Two.of_below hb2)))
      exact ⟨_, rfl, .inr ⟨markL s, w2.heap.size, rfl, rfl, hT.size, at_a0 _ _ _⟩, (((HX.out.setS hne 2).alloc _).below hb2).alloc _, hT.trans (Two.alloc _ _)⟩
  · rw [if_neg h1]
    have t1 : ((st : Int) == 1) = false := by simp; omega
    by_cases h2 : s = []
    · subst h2
      rw [if_pos rfl]
      go_enter Try.func52, Try.ntmps52
      go_wp2
      go_ret2
      exact ⟨_, rfl, .inl ⟨rfl, rfl⟩, HB.out.setS hne 0, Two.setS _ _⟩
    · rw [if_neg h2]
      have hE : s.isEmpty = false := by cases s; exact absurd rfl h2; rfl
      by_cases h3 : st = 2
      · subst h3
        rw [if_pos rfl]
        have CX := Lib.hid (fun w => text_any [116, 101, 120, 116] s w)
        unfold pcV at CX
        clear h
        go_enter Try.func52, Try.ntmps52
        go_wp2_with (go_at_call 15; refine (CX.out _).mono ?_; rintro e w1 ⟨rfl, hb1⟩)
        go_ret2
        exact ⟨_, rfl, .inr ⟨sayP s, w1.heap.size, rfl, rfl, hb1.size, at_a0 _ _ _⟩, (HB.out.below hb1).alloc _, (Two.of_below hb1).trans (Two.alloc _ _)⟩
      · rw [if_neg h3]
        have t2 : ((st : Int) == 2) = false := by simp; omega
        have CD := Lib.hid (fun w => digits_any s w hs)
        rcases hD : digitsL s with _ | _
        · rw [hD] at CD
          simp only [Bool.false_eq_true, if_false]
          clear hD h
          go_enter Try.func52, Try.ntmps52
          go_wp2_with (go_at_call 16; refine (CD.out _).mono ?_; rintro e w1 ⟨rfl, rfl⟩)
          go_ret2
          exact ⟨rfl, Two.refl _ _ _⟩
        · rw [hD] at CD
          simp only [if_true]
          have hne' : bc ≠ bs := fun e => hne e.symm
          clear hD h
          go_enter Try.func52, Try.ntmps52
          go_wp2_with (first | (go_at_call 16; refine (CD.out _).mono ?_; rintro e w1 ⟨rfl, rfl⟩) | (go_at_call 14; refine (CM.out _ _ (by simp)).mono ?_; rintro e w2 ⟨rfl, hb2⟩))
          go_ret2
          have hT := (Two.setS (bs := bs) (bc := bc) w (.int .i64 (1 : Nat))).trans ((Two.setC _ (.int .i64 ((cnt + 1 : Nat) : Int))).trans ((Two.alloc _ _).trans (Two.of_below hb2)))
          exact ⟨_, rfl, .inr ⟨markL s, w2.heap.size, rfl, rfl, hT.size, at_a0 _ _ _⟩, ((((HB.out.setS hne 1).setC hne (cnt + 1)).alloc _).below hb2).alloc _, hT.trans (Two.alloc _ _)⟩
end Go.Proofs.Ytemiegbgnpcbiaa
