/- Layer 15 (tag): the document's head, walked (printed by gen_rf8.py). -/
import Derived.Test.YtmnmonmbdgedbaaRf6
import Derived.Test.YtmnmonmbdgedbaaTgD
import Derived.Deep.DeepCutAuto
namespace Go.Proofs.Ytmnmonmbdgedbaa
open Go.RowKit
set_option linter.unusedVariables false
set_option linter.unusedSimpArgs false

/-- the four boxes of the document's head -/
structure Hx (w0 w : World) (xb tb : Nat) (r : Rd) (v rv fl : Int) : Prop where
  r : InAt 103 w xb r
  z1 : w.heap[xb + 1]? = some (.cells #[.string ⟨#[]⟩, .int .i64 0, .int .i64 0, .int .i64 0, .int .i64 0] 103 (0, 0))
  z2 : w.heap[xb + 1 + 1]? = some (.cells #[.int .i64 0, .int .i64 0, .int .i64 0, .slice none 0 0] 40 (0, 0))
  t : w.heap[tb]? = some (.cells #[.int .i64 v, .int .i64 rv, .int .i64 fl, .slice none 0 0] 40 (0, 0))
  k : Below w0.heap.size w0 w
  hw : w0.heap.size ≤ xb
  ht : xb + 1 + 1 < tb
section
variable {w0 w w' : World} {xb tb : Nat} {v rv fl : Int} {r : Rd}
theorem Hx.below (h : Hx w0 w xb tb r v rv fl) (k : Below w.heap.size w w') : Hx w0 w' xb tb r v rv fl := ⟨h.r.below k, block_below h.z1 k, block_below h.z2 k, block_below h.t k, nextB h.k k, h.hw, h.ht⟩
theorem Hx.setr (h : Hx w0 w xb tb r v rv fl) (x : Rd) : Hx w0 (((((w.setCell ⟨xb, 0, none⟩ (.string ⟨x.t.toArray⟩)).setCell ⟨xb, 1, none⟩ (.int .i64 x.nx)).setCell ⟨xb, 2, none⟩ (.int .i64 x.bs)).setCell ⟨xb, 3, none⟩ (.int .i64 x.cd)).setCell ⟨xb, 4, none⟩ (.int .i64 x.pl)) xb tb x v rv fl := by
  have hw := h.hw
  have ht := h.ht
  exact ⟨store5 h.r rfl, (set5_other x (by omega)).trans h.z1, (set5_other x (by omega)).trans h.z2, (set5_other x (by omega)).trans h.t, ((((h.k.setCell hw _).setCell hw _).setCell hw _).setCell hw _).setCell hw _, hw, ht⟩
theorem Hx.oth (h : Hx w0 w xb tb r v rv fl) (j : Nat) (x : Value) : InAt 103 (w.setCell ⟨tb, j, none⟩ x) xb r ∧ (w.setCell ⟨tb, j, none⟩ x).heap[xb + 1]? = some (.cells #[.string ⟨#[]⟩, .int .i64 0, .int .i64 0, .int .i64 0, .int .i64 0] 103 (0, 0)) ∧ (w.setCell ⟨tb, j, none⟩ x).heap[xb + 1 + 1]? = some (.cells #[.int .i64 0, .int .i64 0, .int .i64 0, .slice none 0 0] 40 (0, 0)) ∧ Below w0.heap.size w0 (w.setCell ⟨tb, j, none⟩ x) := by
  have hw := h.hw
  have ht := h.ht
  exact ⟨(heap_set_other _ (by omega)).trans h.r, (heap_set_other _ (by omega)).trans h.z1, (heap_set_other _ (by omega)).trans h.z2, Below.setCell (p := ⟨tb, j, none⟩) h.k (show w0.heap.size ≤ tb by omega) x⟩
theorem Hx.set0 (h : Hx w0 w xb tb r v rv fl) (x : Int) : Hx w0 (w.setCell ⟨tb, 0, none⟩ (.int .i64 x)) xb tb r x rv fl := ⟨(h.oth _ _).1, (h.oth _ _).2.1, (h.oth _ _).2.2.1, setCell_at h.t, (h.oth _ _).2.2.2, h.hw, h.ht⟩
theorem Hx.set1 (h : Hx w0 w xb tb r v rv fl) (x : Int) : Hx w0 (w.setCell ⟨tb, 1, none⟩ (.int .i64 x)) xb tb r v x fl := ⟨(h.oth _ _).1, (h.oth _ _).2.1, (h.oth _ _).2.2.1, setCell_at h.t, (h.oth _ _).2.2.2, h.hw, h.ht⟩
theorem Hx.set2 (h : Hx w0 w xb tb r v rv fl) (x : Int) : Hx w0 (w.setCell ⟨tb, 2, none⟩ (.int .i64 x)) xb tb r v rv x := ⟨(h.oth _ _).1, (h.oth _ _).2.1, (h.oth _ _).2.2.1, setCell_at h.t, (h.oth _ _).2.2.2, h.hw, h.ht⟩
theorem Hx.fin (h : Hx w0 w xb tb r v rv fl) : (stores (stores w (xb + 1) 0 [.string ⟨r.t.toArray⟩, .int .i64 r.nx, .int .i64 r.bs, .int .i64 r.cd, .int .i64 r.pl]) (xb + 1 + 1) 0 [.int .i64 v, .int .i64 rv, .int .i64 fl, .slice none 0 0]).heap[xb + 1]? = some (.cells #[.string ⟨r.t.toArray⟩, .int .i64 r.nx, .int .i64 r.bs, .int .i64 r.cd, .int .i64 r.pl] 103 (0, 0)) ∧
    (stores (stores w (xb + 1) 0 [.string ⟨r.t.toArray⟩, .int .i64 r.nx, .int .i64 r.bs, .int .i64 r.cd, .int .i64 r.pl]) (xb + 1 + 1) 0 [.int .i64 v, .int .i64 rv, .int .i64 fl, .slice none 0 0]).heap[xb + 1 + 1]? = some (.cells #[.int .i64 v, .int .i64 rv, .int .i64 fl, .slice none 0 0] 40 (0, 0)) ∧
    Below w0.heap.size w0 (stores (stores w (xb + 1) 0 [.string ⟨r.t.toArray⟩, .int .i64 r.nx, .int .i64 r.bs, .int .i64 r.cd, .int .i64 r.pl]) (xb + 1 + 1) 0 [.int .i64 v, .int .i64 rv, .int .i64 fl, .slice none 0 0]) := by
  have hw := h.hw
  have s1 := store5 (v0 := .string ⟨r.t.toArray⟩) (v1 := .int .i64 r.nx) (v2 := .int .i64 r.bs) (v3 := .int .i64 r.cd) (v4 := .int .i64 r.pl) h.z1 rfl
  have n1 : xb + 1 ≠ xb + 1 + 1 := by omega
  have n2 : xb + 1 + 1 ≠ xb + 1 := by omega
  have l1 : w0.heap.size ≤ xb + 1 := by omega
  have l2 : w0.heap.size ≤ xb + 1 + 1 := by omega
  refine ⟨?_, ?_, ?_⟩
  · show (World.setCell (World.setCell (World.setCell (World.setCell _ ⟨xb + 1 + 1, 0, none⟩ _) ⟨xb + 1 + 1, 1, none⟩ _) ⟨xb + 1 + 1, 2, none⟩ _) ⟨xb + 1 + 1, 3, none⟩ _).heap[xb + 1]? = _
    rw [heap_set_other _ n1, heap_set_other _ n1, heap_set_other _ n1, heap_set_other _ n1]
    exact s1
  · refine store4 (C := #[.int .i64 0, .int .i64 0, .int .i64 0, .slice none 0 0]) ?_ rfl
    show (World.setCell (World.setCell (World.setCell (World.setCell (World.setCell w ⟨xb + 1, 0, none⟩ _) ⟨xb + 1, 1, none⟩ _) ⟨xb + 1, 2, none⟩ _) ⟨xb + 1, 3, none⟩ _) ⟨xb + 1, 4, none⟩ _).heap[xb + 1 + 1]? = _
    rw [heap_set_other _ n2, heap_set_other _ n2, heap_set_other _ n2, heap_set_other _ n2, heap_set_other _ n2]
    exact h.z2
  · exact ((((((((h.k.setCell l1 _).setCell l1 _).setCell l1 _).setCell l1 _).setCell l1 _).setCell l2 _).setCell l2 _).setCell l2 _).setCell l2 _
end
theorem Hx.init (w : World) (m : Rd) : Hx w ((((w.alloc (.cells #[.string ⟨m.t.toArray⟩, .int .i64 m.nx, .int .i64 m.bs, .int .i64 m.cd, .int .i64 m.pl] 103)).alloc (.cells #[.string ⟨#[]⟩, .int .i64 0, .int .i64 0, .int .i64 0, .int .i64 0] 103)).alloc (.cells #[.int .i64 0, .int .i64 0, .int .i64 0, .slice none 0 0] 40)).alloc (.cells #[.int .i64 0, .int .i64 0, .int .i64 0, .slice none 0 0] 40)) w.heap.size (w.heap.size + 1 + 1 + 1) m 0 0 0 := by
  have k : ∀ (v : World) (o : Obj), Below v.heap.size v (v.alloc o) := fun v o => (Below.refl _ _).alloc (Nat.le_refl _) o
  refine ⟨block_below (block_below (block_below (at_a0 w #[.string ⟨m.t.toArray⟩, .int .i64 m.nx, .int .i64 m.bs, .int .i64 m.cd, .int .i64 m.pl] 103) (k _ _)) (k _ _)) (k _ _), ?_, ?_, ?_, (((k w _).alloc (by simp) _).alloc (by simp; omega) _).alloc (by simp; omega) _, Nat.le_refl _, by omega⟩
  · have h := block_below (block_below (at_a0 (w.alloc (.cells #[.string ⟨m.t.toArray⟩, .int .i64 m.nx, .int .i64 m.bs, .int .i64 m.cd, .int .i64 m.pl] 103)) #[.string ⟨#[]⟩, .int .i64 0, .int .i64 0, .int .i64 0, .int .i64 0] 103) (k _ (.cells #[.int .i64 0, .int .i64 0, .int .i64 0, .slice none 0 0] 40))) (k _ (.cells #[.int .i64 0, .int .i64 0, .int .i64 0, .slice none 0 0] 40))
    simpa using h
  · have h := block_below (at_a0 ((w.alloc (.cells #[.string ⟨m.t.toArray⟩, .int .i64 m.nx, .int .i64 m.bs, .int .i64 m.cd, .int .i64 m.pl] 103)).alloc (.cells #[.string ⟨#[]⟩, .int .i64 0, .int .i64 0, .int .i64 0, .int .i64 0] 103)) #[.int .i64 0, .int .i64 0, .int .i64 0, .slice none 0 0] 40) (k _ (.cells #[.int .i64 0, .int .i64 0, .int .i64 0, .slice none 0 0] 40))
    simpa using h
  · have h := at_a0 (((w.alloc (.cells #[.string ⟨m.t.toArray⟩, .int .i64 m.nx, .int .i64 m.bs, .int .i64 m.cd, .int .i64 m.pl] 103)).alloc (.cells #[.string ⟨#[]⟩, .int .i64 0, .int .i64 0, .int .i64 0, .int .i64 0] 103)).alloc (.cells #[.int .i64 0, .int .i64 0, .int .i64 0, .slice none 0 0] 40)) #[.int .i64 0, .int .i64 0, .int .i64 0, .slice none 0 0] 40
    simpa using h
def RHead (x : Rd) (v : Int) (rv fl : Nat) (n : Int) (w : World) (e : Ending) (w' : World) : Prop := e = .returned (.tuple #[rdV x, .agg #[.int .i64 v, .int .i64 (rv : Nat), .int .i64 (fl : Nat), .slice none 0 0], .int .i64 n]) ∧ Below w.heap.size w w'
set_option maxHeartbeats 8000000 in
set_option maxRecDepth 100000 in
theorem rhead_core (m m1 m2 m3 m4 m5 : Rd) (v : Int) (rv fl : Nat) (n : Int) (w : World)
    (O1 : Hid (∀ w, Calls Try.prog 100 #[.agg #[.string ⟨m.t.toArray⟩, .int .i64 m.nx, .int .i64 m.bs, .int .i64 m.cd, .int .i64 m.pl]] w fun e w' => e = .returned (.tuple #[.agg #[.string ⟨m1.t.toArray⟩, .int .i64 m1.nx, .int .i64 m1.bs, .int .i64 m1.cd, .int .i64 m1.pl], .int .i64 v]) ∧ Below w.heap.size w w'))
    (O2 : Hid (∀ w, Calls Try.prog 100 #[.agg #[.string ⟨m1.t.toArray⟩, .int .i64 m1.nx, .int .i64 m1.bs, .int .i64 m1.cd, .int .i64 m1.pl]] w fun e w' => e = .returned (.tuple #[.agg #[.string ⟨m2.t.toArray⟩, .int .i64 m2.nx, .int .i64 m2.bs, .int .i64 m2.cd, .int .i64 m2.pl], .int .i64 (rv : Nat)]) ∧ Below w.heap.size w w'))
    (O3 : Hid (∀ w, Calls Try.prog 100 #[.agg #[.string ⟨m2.t.toArray⟩, .int .i64 m2.nx, .int .i64 m2.bs, .int .i64 m2.cd, .int .i64 m2.pl]] w fun e w' => e = .returned (.tuple #[.agg #[.string ⟨m3.t.toArray⟩, .int .i64 m3.nx, .int .i64 m3.bs, .int .i64 m3.cd, .int .i64 m3.pl], .int .i64 (fl : Nat)]) ∧ Below w.heap.size w w'))
    (hchk : ((m3.cd == 0) = true ∧ ¬ v < 2 ∧ ¬ 4 < v ∧ ((rv : Int) == 255) = false ∧ Hid (∀ w, Calls Try.prog 72 #[.int .i64 v, .int .i64 (fl : Nat)] w fun e w' => e = .returned (.bool false) ∧ w = w') ∧ (v == 2) = false ∧ m4 = m3) ∨
      ((m3.cd == 0) = true ∧ ¬ v < 2 ∧ ¬ 4 < v ∧ ((rv : Int) == 255) = false ∧ Hid (∀ w, Calls Try.prog 72 #[.int .i64 v, .int .i64 (fl : Nat)] w fun e w' => e = .returned (.bool false) ∧ w = w') ∧ (v == 2) = true ∧ Hid (∀ w, Calls Try.prog 28 #[.int .i64 (fl : Nat), .int .i64 64] w fun e w' => e = .returned (.bool false) ∧ w = w') ∧ m4 = m3) ∨
      ((m3.cd == 0) = true ∧ ¬ v < 2 ∧ ¬ 4 < v ∧ ((rv : Int) == 255) = false ∧ Hid (∀ w, Calls Try.prog 72 #[.int .i64 v, .int .i64 (fl : Nat)] w fun e w' => e = .returned (.bool false) ∧ w = w') ∧ (v == 2) = true ∧ Hid (∀ w, Calls Try.prog 28 #[.int .i64 (fl : Nat), .int .i64 64] w fun e w' => e = .returned (.bool true) ∧ w = w') ∧ Hid (∀ w, Calls Try.prog 101 #[.agg #[.string ⟨m3.t.toArray⟩, .int .i64 m3.nx, .int .i64 m3.bs, .int .i64 m3.cd, .int .i64 m3.pl], .int .i64 3, .int .i64 5] w fun e w' => e = .returned (.agg #[.string ⟨m4.t.toArray⟩, .int .i64 m4.nx, .int .i64 m4.bs, .int .i64 m4.cd, .int .i64 m4.pl]) ∧ Below w.heap.size w w')) ∨
      ((m3.cd == 0) = true ∧ ¬ v < 2 ∧ ¬ 4 < v ∧ ((rv : Int) == 255) = false ∧ Hid (∀ w, Calls Try.prog 72 #[.int .i64 v, .int .i64 (fl : Nat)] w fun e w' => e = .returned (.bool true) ∧ w = w') ∧ Hid (∀ w, Calls Try.prog 101 #[.agg #[.string ⟨m3.t.toArray⟩, .int .i64 m3.nx, .int .i64 m3.bs, .int .i64 m3.cd, .int .i64 m3.pl], .int .i64 1, .int .i64 5] w fun e w' => e = .returned (.agg #[.string ⟨m4.t.toArray⟩, .int .i64 m4.nx, .int .i64 m4.bs, .int .i64 m4.cd, .int .i64 m4.pl]) ∧ Below w.heap.size w w')) ∨
      ((m3.cd == 0) = true ∧ ¬ v < 2 ∧ ¬ 4 < v ∧ ((rv : Int) == 255) = true ∧ Hid (∀ w, Calls Try.prog 101 #[.agg #[.string ⟨m3.t.toArray⟩, .int .i64 m3.nx, .int .i64 m3.bs, .int .i64 m3.cd, .int .i64 m3.pl], .int .i64 1, .int .i64 4] w fun e w' => e = .returned (.agg #[.string ⟨m4.t.toArray⟩, .int .i64 m4.nx, .int .i64 m4.bs, .int .i64 m4.cd, .int .i64 m4.pl]) ∧ Below w.heap.size w w')) ∨
      ((m3.cd == 0) = true ∧ ¬ v < 2 ∧ 4 < v ∧ Hid (∀ w, Calls Try.prog 101 #[.agg #[.string ⟨m3.t.toArray⟩, .int .i64 m3.nx, .int .i64 m3.bs, .int .i64 m3.cd, .int .i64 m3.pl], .int .i64 3, .int .i64 3] w fun e w' => e = .returned (.agg #[.string ⟨m4.t.toArray⟩, .int .i64 m4.nx, .int .i64 m4.bs, .int .i64 m4.cd, .int .i64 m4.pl]) ∧ Below w.heap.size w w')) ∨
      ((m3.cd == 0) = true ∧ v < 2 ∧ Hid (∀ w, Calls Try.prog 101 #[.agg #[.string ⟨m3.t.toArray⟩, .int .i64 m3.nx, .int .i64 m3.bs, .int .i64 m3.cd, .int .i64 m3.pl], .int .i64 3, .int .i64 3] w fun e w' => e = .returned (.agg #[.string ⟨m4.t.toArray⟩, .int .i64 m4.nx, .int .i64 m4.bs, .int .i64 m4.cd, .int .i64 m4.pl]) ∧ Below w.heap.size w w')) ∨
      ((m3.cd == 0) = false ∧ m4 = m3))
    (RS : Hid (∀ w, Calls Try.prog 102 #[.agg #[.string ⟨m4.t.toArray⟩, .int .i64 m4.nx, .int .i64 m4.bs, .int .i64 m4.cd, .int .i64 m4.pl]] w fun e w' => e = .returned (.tuple #[.agg #[.string ⟨m5.t.toArray⟩, .int .i64 m5.nx, .int .i64 m5.bs, .int .i64 m5.cd, .int .i64 m5.pl], .int .i64 n]) ∧ Below w.heap.size w w'))
    : Calls Try.prog 67 #[rdV m] w (RHead m5 v rv fl n w) := by
  unfold RHead
  go_enter Try.func67, Try.ntmps67
  go_upto_region 2 with (fail)
  have X := Lib.hid (Hx.init w m)
  obtain ⟨tb, htb⟩ : ∃ tb, tb = w.heap.size + 1 + 1 + 1 := ⟨_, rfl⟩
  rw [← htb] at X
  rw [← htb]
  clear htb
  obtain ⟨xb, hxb⟩ : ∃ xb, xb = w.heap.size := ⟨_, rfl⟩
  rw [← hxb] at X
  rw [← hxb]
  clear hxb
  generalize (((w.alloc (.cells #[.string ⟨m.t.toArray⟩, .int .i64 m.nx, .int .i64 m.bs, .int .i64 m.cd, .int .i64 m.pl] 103)).alloc (.cells #[.string ⟨#[]⟩, .int .i64 0, .int .i64 0, .int .i64 0, .int .i64 0] 103)).alloc (.cells #[.int .i64 0, .int .i64 0, .int .i64 0, .slice none 0 0] 40)).alloc (.cells #[.int .i64 0, .int .i64 0, .int .i64 0, .slice none 0 0] 40) = wv at *
  have ht := X.out.ht
  have qa := X.out.r.all; obtain ⟨⟨q0, q1, q2, q3, q4⟩, qf0, qf1, qf2, qf3, qf4⟩ := qa; obtain ⟨t0, t1, t2, t3⟩ := cells4 (X.out.t); obtain ⟨tf0, tf1, tf2, tf3⟩ := frees4 (X.out.t)
  go_upto_region 3 with (go_at_call 100; refine (O1.out _).mono ?_; rintro e w1 ⟨rfl, hb⟩; clear q0 q1 q2 q3 q4 qf0 qf1 qf2 qf3 qf4 t0 t1 t2 t3 tf0 tf1 tf2 tf3; replace X := Lib.hid (X.out.below hb); clear hb; have qa := X.out.r.all; obtain ⟨⟨q0, q1, q2, q3, q4⟩, qf0, qf1, qf2, qf3, qf4⟩ := qa; obtain ⟨t0, t1, t2, t3⟩ := cells4 (X.out.t); obtain ⟨tf0, tf1, tf2, tf3⟩ := frees4 (X.out.t))
  replace X := Lib.hid ((X.out.setr m1).set0 v)
  clear q0 q1 q2 q3 q4 qf0 qf1 qf2 qf3 qf4 t0 t1 t2 t3 tf0 tf1 tf2 tf3
  generalize (((((w1.setCell ⟨xb, 0, none⟩ (.string ⟨m1.t.toArray⟩)).setCell ⟨xb, 1, none⟩ (.int .i64 m1.nx)).setCell ⟨xb, 2, none⟩ (.int .i64 m1.bs)).setCell ⟨xb, 3, none⟩ (.int .i64 m1.cd)).setCell ⟨xb, 4, none⟩ (.int .i64 m1.pl)).setCell ⟨tb, 0, none⟩ (.int .i64 v) = wv1 at *
  have qa := X.out.r.all; obtain ⟨⟨q0, q1, q2, q3, q4⟩, qf0, qf1, qf2, qf3, qf4⟩ := qa; obtain ⟨t0, t1, t2, t3⟩ := cells4 (X.out.t); obtain ⟨tf0, tf1, tf2, tf3⟩ := frees4 (X.out.t)
  go_upto_region 4 with (go_at_call 100; refine (O2.out _).mono ?_; rintro e w2 ⟨rfl, hb⟩; clear q0 q1 q2 q3 q4 qf0 qf1 qf2 qf3 qf4 t0 t1 t2 t3 tf0 tf1 tf2 tf3; replace X := Lib.hid (X.out.below hb); clear hb; have qa := X.out.r.all; obtain ⟨⟨q0, q1, q2, q3, q4⟩, qf0, qf1, qf2, qf3, qf4⟩ := qa; obtain ⟨t0, t1, t2, t3⟩ := cells4 (X.out.t); obtain ⟨tf0, tf1, tf2, tf3⟩ := frees4 (X.out.t))
  replace X := Lib.hid ((X.out.setr m2).set1 (rv : Nat))
  clear q0 q1 q2 q3 q4 qf0 qf1 qf2 qf3 qf4 t0 t1 t2 t3 tf0 tf1 tf2 tf3
  generalize (((((w2.setCell ⟨xb, 0, none⟩ (.string ⟨m2.t.toArray⟩)).setCell ⟨xb, 1, none⟩ (.int .i64 m2.nx)).setCell ⟨xb, 2, none⟩ (.int .i64 m2.bs)).setCell ⟨xb, 3, none⟩ (.int .i64 m2.cd)).setCell ⟨xb, 4, none⟩ (.int .i64 m2.pl)).setCell ⟨tb, 1, none⟩ (.int .i64 (rv : Nat)) = wv2 at *
  have qa := X.out.r.all; obtain ⟨⟨q0, q1, q2, q3, q4⟩, qf0, qf1, qf2, qf3, qf4⟩ := qa; obtain ⟨t0, t1, t2, t3⟩ := cells4 (X.out.t); obtain ⟨tf0, tf1, tf2, tf3⟩ := frees4 (X.out.t)
  go_upto_region 5 with (go_at_call 100; refine (O3.out _).mono ?_; rintro e w3 ⟨rfl, hb⟩; clear q0 q1 q2 q3 q4 qf0 qf1 qf2 qf3 qf4 t0 t1 t2 t3 tf0 tf1 tf2 tf3; replace X := Lib.hid (X.out.below hb); clear hb; have qa := X.out.r.all; obtain ⟨⟨q0, q1, q2, q3, q4⟩, qf0, qf1, qf2, qf3, qf4⟩ := qa; obtain ⟨t0, t1, t2, t3⟩ := cells4 (X.out.t); obtain ⟨tf0, tf1, tf2, tf3⟩ := frees4 (X.out.t))
  replace X := Lib.hid ((X.out.setr m3).set2 (fl : Nat))
  clear q0 q1 q2 q3 q4 qf0 qf1 qf2 qf3 qf4 t0 t1 t2 t3 tf0 tf1 tf2 tf3
  generalize (((((w3.setCell ⟨xb, 0, none⟩ (.string ⟨m3.t.toArray⟩)).setCell ⟨xb, 1, none⟩ (.int .i64 m3.nx)).setCell ⟨xb, 2, none⟩ (.int .i64 m3.bs)).setCell ⟨xb, 3, none⟩ (.int .i64 m3.cd)).setCell ⟨xb, 4, none⟩ (.int .i64 m3.pl)).setCell ⟨tb, 2, none⟩ (.int .i64 (fl : Nat)) = wv3 at *
  have qa := X.out.r.all; obtain ⟨⟨q0, q1, q2, q3, q4⟩, qf0, qf1, qf2, qf3, qf4⟩ := qa; obtain ⟨t0, t1, t2, t3⟩ := cells4 (X.out.t); obtain ⟨tf0, tf1, tf2, tf3⟩ := frees4 (X.out.t)
  go_upto_if 27 with (fail)
  go_cut [5] (fun s5 wx => s5 = .pointer (some ⟨tb, 0, none⟩) ∧ Hid (Hx w wx xb tb m4 v (rv : Nat) (fl : Nat)))
  case first =>
    rcases hchk with ⟨hc, h1, h2, h3, OD, h4, rfl⟩ | ⟨hc, h1, h2, h3, OD, h4, BT, rfl⟩ | ⟨hc, h1, h2, h3, OD, h4, BT, FL⟩ | ⟨hc, h1, h2, h3, OD, FL⟩ | ⟨hc, h1, h2, h3, FL⟩ | ⟨hc, h1, h2, FL⟩ | ⟨hc, h1, FL⟩ | ⟨hc, rfl⟩
    · obtain rfl | rfl : v = 3 ∨ v = 4 := by have := ne_of_beq_false h4; omega
      all_goals (
        clear h1 h2
        (try clear h4)
        go_wp2_with (first | (go_at_call 101; (with_reducible refine (FL.out _).mono ?_); rintro e w7 ⟨rfl, hb⟩; clear q0 q1 q2 q3 q4 qf0 qf1 qf2 qf3 qf4 t0 t1 t2 t3 tf0 tf1 tf2 tf3; replace X := Lib.hid (X.out.below hb); clear hb; have qa := X.out.r.all; obtain ⟨⟨q0, q1, q2, q3, q4⟩, qf0, qf1, qf2, qf3, qf4⟩ := qa; obtain ⟨t0, t1, t2, t3⟩ := cells4 (X.out.t); obtain ⟨tf0, tf1, tf2, tf3⟩ := frees4 (X.out.t)) | (go_at_call 72; refine (OD.out _).mono ?_; rintro e wx ⟨rfl, rfl⟩) | (go_at_call 28; refine (BT.out _).mono ?_; rintro e wx ⟨rfl, rfl⟩))
        go_meet
        first | exact ⟨rfl, X⟩ | exact ⟨rfl, Lib.hid (X.out.setr m4)⟩)
    · obtain rfl : v = 2 := eq_of_beq h4
      all_goals (
        clear h1 h2
        (try clear h4)
        go_wp2_with (first | (go_at_call 101; (with_reducible refine (FL.out _).mono ?_); rintro e w7 ⟨rfl, hb⟩; clear q0 q1 q2 q3 q4 qf0 qf1 qf2 qf3 qf4 t0 t1 t2 t3 tf0 tf1 tf2 tf3; replace X := Lib.hid (X.out.below hb); clear hb; have qa := X.out.r.all; obtain ⟨⟨q0, q1, q2, q3, q4⟩, qf0, qf1, qf2, qf3, qf4⟩ := qa; obtain ⟨t0, t1, t2, t3⟩ := cells4 (X.out.t); obtain ⟨tf0, tf1, tf2, tf3⟩ := frees4 (X.out.t)) | (go_at_call 72; refine (OD.out _).mono ?_; rintro e wx ⟨rfl, rfl⟩) | (go_at_call 28; refine (BT.out _).mono ?_; rintro e wx ⟨rfl, rfl⟩))
        go_meet
        first | exact ⟨rfl, X⟩ | exact ⟨rfl, Lib.hid (X.out.setr m4)⟩)
    · obtain rfl : v = 2 := eq_of_beq h4
      all_goals (
        clear h1 h2
        (try clear h4)
        go_wp2_with (first | (go_at_call 101; (with_reducible refine (FL.out _).mono ?_); rintro e w7 ⟨rfl, hb⟩; clear q0 q1 q2 q3 q4 qf0 qf1 qf2 qf3 qf4 t0 t1 t2 t3 tf0 tf1 tf2 tf3; replace X := Lib.hid (X.out.below hb); clear hb; have qa := X.out.r.all; obtain ⟨⟨q0, q1, q2, q3, q4⟩, qf0, qf1, qf2, qf3, qf4⟩ := qa; obtain ⟨t0, t1, t2, t3⟩ := cells4 (X.out.t); obtain ⟨tf0, tf1, tf2, tf3⟩ := frees4 (X.out.t)) | (go_at_call 72; refine (OD.out _).mono ?_; rintro e wx ⟨rfl, rfl⟩) | (go_at_call 28; refine (BT.out _).mono ?_; rintro e wx ⟨rfl, rfl⟩))
        go_meet
        first | exact ⟨rfl, X⟩ | exact ⟨rfl, Lib.hid (X.out.setr m4)⟩)
    · obtain rfl | rfl | rfl : v = 2 ∨ v = 3 ∨ v = 4 := by omega
      all_goals (
        clear h1 h2
        (try clear h4)
        go_wp2_with (first | (go_at_call 101; (with_reducible refine (FL.out _).mono ?_); rintro e w7 ⟨rfl, hb⟩; clear q0 q1 q2 q3 q4 qf0 qf1 qf2 qf3 qf4 t0 t1 t2 t3 tf0 tf1 tf2 tf3; replace X := Lib.hid (X.out.below hb); clear hb; have qa := X.out.r.all; obtain ⟨⟨q0, q1, q2, q3, q4⟩, qf0, qf1, qf2, qf3, qf4⟩ := qa; obtain ⟨t0, t1, t2, t3⟩ := cells4 (X.out.t); obtain ⟨tf0, tf1, tf2, tf3⟩ := frees4 (X.out.t)) | (go_at_call 72; refine (OD.out _).mono ?_; rintro e wx ⟨rfl, rfl⟩) | (go_at_call 28; refine (BT.out _).mono ?_; rintro e wx ⟨rfl, rfl⟩))
        go_meet
        first | exact ⟨rfl, X⟩ | exact ⟨rfl, Lib.hid (X.out.setr m4)⟩)
    · obtain rfl | rfl | rfl : v = 2 ∨ v = 3 ∨ v = 4 := by omega
      all_goals (
        clear h1 h2
        (try clear h4)
        go_wp2_with (first | (go_at_call 101; (with_reducible refine (FL.out _).mono ?_); rintro e w7 ⟨rfl, hb⟩; clear q0 q1 q2 q3 q4 qf0 qf1 qf2 qf3 qf4 t0 t1 t2 t3 tf0 tf1 tf2 tf3; replace X := Lib.hid (X.out.below hb); clear hb; have qa := X.out.r.all; obtain ⟨⟨q0, q1, q2, q3, q4⟩, qf0, qf1, qf2, qf3, qf4⟩ := qa; obtain ⟨t0, t1, t2, t3⟩ := cells4 (X.out.t); obtain ⟨tf0, tf1, tf2, tf3⟩ := frees4 (X.out.t)) | (go_at_call 72; refine (OD.out _).mono ?_; rintro e wx ⟨rfl, rfl⟩) | (go_at_call 28; refine (BT.out _).mono ?_; rintro e wx ⟨rfl, rfl⟩))
        go_meet
        first | exact ⟨rfl, X⟩ | exact ⟨rfl, Lib.hid (X.out.setr m4)⟩)
    · skip
      all_goals (
        skip
        (try clear h4)
        go_wp2_with (first | (go_at_call 101; (with_reducible refine (FL.out _).mono ?_); rintro e w7 ⟨rfl, hb⟩; clear q0 q1 q2 q3 q4 qf0 qf1 qf2 qf3 qf4 t0 t1 t2 t3 tf0 tf1 tf2 tf3; replace X := Lib.hid (X.out.below hb); clear hb; have qa := X.out.r.all; obtain ⟨⟨q0, q1, q2, q3, q4⟩, qf0, qf1, qf2, qf3, qf4⟩ := qa; obtain ⟨t0, t1, t2, t3⟩ := cells4 (X.out.t); obtain ⟨tf0, tf1, tf2, tf3⟩ := frees4 (X.out.t)) | (go_at_call 72; refine (OD.out _).mono ?_; rintro e wx ⟨rfl, rfl⟩) | (go_at_call 28; refine (BT.out _).mono ?_; rintro e wx ⟨rfl, rfl⟩))
        go_meet
        first | exact ⟨rfl, X⟩ | exact ⟨rfl, Lib.hid (X.out.setr m4)⟩)
    · skip
      all_goals (
        skip
        (try clear h4)
        go_wp2_with (first | (go_at_call 101; (with_reducible refine (FL.out _).mono ?_); rintro e w7 ⟨rfl, hb⟩; clear q0 q1 q2 q3 q4 qf0 qf1 qf2 qf3 qf4 t0 t1 t2 t3 tf0 tf1 tf2 tf3; replace X := Lib.hid (X.out.below hb); clear hb; have qa := X.out.r.all; obtain ⟨⟨q0, q1, q2, q3, q4⟩, qf0, qf1, qf2, qf3, qf4⟩ := qa; obtain ⟨t0, t1, t2, t3⟩ := cells4 (X.out.t); obtain ⟨tf0, tf1, tf2, tf3⟩ := frees4 (X.out.t)) | (go_at_call 72; refine (OD.out _).mono ?_; rintro e wx ⟨rfl, rfl⟩) | (go_at_call 28; refine (BT.out _).mono ?_; rintro e wx ⟨rfl, rfl⟩))
        go_meet
        first | exact ⟨rfl, X⟩ | exact ⟨rfl, Lib.hid (X.out.setr m4)⟩)
    · skip
      all_goals (
        skip
        (try clear h4)
        go_wp2_with (first | (go_at_call 101; (with_reducible refine (FL.out _).mono ?_); rintro e w7 ⟨rfl, hb⟩; clear q0 q1 q2 q3 q4 qf0 qf1 qf2 qf3 qf4 t0 t1 t2 t3 tf0 tf1 tf2 tf3; replace X := Lib.hid (X.out.below hb); clear hb; have qa := X.out.r.all; obtain ⟨⟨q0, q1, q2, q3, q4⟩, qf0, qf1, qf2, qf3, qf4⟩ := qa; obtain ⟨t0, t1, t2, t3⟩ := cells4 (X.out.t); obtain ⟨tf0, tf1, tf2, tf3⟩ := frees4 (X.out.t)) | (go_at_call 72; refine (OD.out _).mono ?_; rintro e wx ⟨rfl, rfl⟩) | (go_at_call 28; refine (BT.out _).mono ?_; rintro e wx ⟨rfl, rfl⟩))
        go_meet
        first | exact ⟨rfl, X⟩ | exact ⟨rfl, Lib.hid (X.out.setr m4)⟩)
  case rest =>
    obtain ⟨rfl, X2⟩ := hcut
    clear X
    clear q0 q1 q2 q3 q4 qf0 qf1 qf2 qf3 qf4 t0 t1 t2 t3 tf0 tf1 tf2 tf3
    have X := X2
    clear X2
    have qa := X.out.r.all; obtain ⟨⟨q0, q1, q2, q3, q4⟩, qf0, qf1, qf2, qf3, qf4⟩ := qa; obtain ⟨t0, t1, t2, t3⟩ := cells4 (X.out.t); obtain ⟨tf0, tf1, tf2, tf3⟩ := frees4 (X.out.t)
    go_upto_region 15 with (go_at_call 102; refine (RS.out _).mono ?_; rintro e w7 ⟨rfl, hb⟩; clear q0 q1 q2 q3 q4 qf0 qf1 qf2 qf3 qf4 t0 t1 t2 t3 tf0 tf1 tf2 tf3; replace X := Lib.hid (X.out.below hb); clear hb; have qa := X.out.r.all; obtain ⟨⟨q0, q1, q2, q3, q4⟩, qf0, qf1, qf2, qf3, qf4⟩ := qa; obtain ⟨t0, t1, t2, t3⟩ := cells4 (X.out.t); obtain ⟨tf0, tf1, tf2, tf3⟩ := frees4 (X.out.t))
    replace X := Lib.hid (X.out.setr m5)
    clear q0 q1 q2 q3 q4 qf0 qf1 qf2 qf3 qf4 t0 t1 t2 t3 tf0 tf1 tf2 tf3
    generalize (((((w7.setCell ⟨xb, 0, none⟩ (.string ⟨m5.t.toArray⟩)).setCell ⟨xb, 1, none⟩ (.int .i64 m5.nx)).setCell ⟨xb, 2, none⟩ (.int .i64 m5.bs)).setCell ⟨xb, 3, none⟩ (.int .i64 m5.cd)).setCell ⟨xb, 4, none⟩ (.int .i64 m5.pl)) = wv6 at *
    have qa := X.out.r.all; obtain ⟨⟨q0, q1, q2, q3, q4⟩, qf0, qf1, qf2, qf3, qf4⟩ := qa; obtain ⟨t0, t1, t2, t3⟩ := cells4 (X.out.t); obtain ⟨tf0, tf1, tf2, tf3⟩ := frees4 (X.out.t)
    obtain ⟨y0, y1, y2, y3, y4⟩ := cells5 (X.out.z1); obtain ⟨yf0, yf1, yf2, yf3, yf4⟩ := frees5 (X.out.z1)
    obtain ⟨z0, z1, z2, z3⟩ := cells4 (X.out.z2); obtain ⟨zf0, zf1, zf2, zf3⟩ := frees4 (X.out.z2)
    have ht1 : tb ≠ xb + 1 := by omega
    have ht2 : xb + 1 ≠ tb := by omega
    have ht3 : tb ≠ xb + 1 + 1 := by omega
    have ht4 : xb + 1 + 1 ≠ tb := by omega
    go_region
    all_goals (go_wp2; try simp only [Act.put, List.setIfInBounds_toArray, List.set_cons_zero, List.set_cons_succ, List.getElem_toArray, List.getElem_cons_zero, List.getElem_cons_succ])
    all_goals (obtain ⟨h8, h9, hk⟩ := X.out.fin; exact end_cct rfl rfl rfl (rf_block_drew h8) Try.underlying103 rfl info_ref01In rfl (rf_block_drew h9) Try.underlying40 rfl (by kernel_rfl) ⟨rfl, hk.drew⟩)
theorem odd_an : ∀ n : Nat, n < 256 → (((n : Int) % 64 != 0) = (((n &&& (255 - 192) : Nat) : Int) != 0)) ∧ (((n : Int) % 32 != 0) = (((n &&& (255 - 224) : Nat) : Int) != 0)) ∧ (((n : Int) % 16 != 0) = (((n &&& (255 - 240) : Nat) : Int) != 0)) := by decide +kernel
theorem oddB_an {v : Int} (fl : UInt8) (hv : letters v ≠ 0) : oddB v fl = anB fl (allowN v) := by
  have h := odd_an fl.toNat (UInt8.toNat_lt fl)
  unfold oddB anB allowN
  rcases letters_v hv with rfl | rfl | rfl
  · exact h.1
  · exact h.2.1
  · exact h.2.2
/-- what the document's head says of a reader behind the mark -/
def hd3 (m : Rd) : Rd × Nat × Nat × Nat :=
  let a1 := m.take ((1 : Nat) : Int)
  let a2 := a1.1.take ((1 : Nat) : Int)
  let a3 := a2.1.take ((1 : Nat) : Int)
  (if a3.1.cd ≠ 0 then a3.1 else fail4 (decide (letters (numL a1.2 : Nat) = 0)) (((UInt8.ofNat (numL a2.2)).toNat : Int) == 255) (anB (UInt8.ofNat (numL a3.2)) (allowN (numL a1.2 : Nat))) (decide (((numL a1.2 : Nat) : Int) = 2) && tb (UInt8.ofNat (numL a3.2)) 64) a3.1, numL a1.2, numL a2.2, numL a3.2)
theorem letters_zero (n : Nat) : (letters (n : Nat) = 0) ↔ ((n : Int) < 2 ∨ (4 : Int) < n) := by
  unfold letters
  by_cases h2 : (n : Int) = 2
  · rw [if_pos h2]; constructor <;> intro h <;> omega
  · rw [if_neg h2]
    by_cases h3 : (n : Int) = 3
    · rw [if_pos h3]; constructor <;> intro h <;> omega
    · rw [if_neg h3]
      by_cases h4 : (n : Int) = 4
      · rw [if_pos h4]; constructor <;> intro h <;> omega
      · rw [if_neg h4]; constructor <;> intro h <;> omega
theorem fail_twice (m : Rd) (c p c2 p2 : Int) (hc : c ≠ 0) : (m.fail c p).fail c2 p2 = m.fail c p := by
  refine Rd.fail_no _ _ _ (fun h => ?_)
  by_cases h0 : m.cd = 0
  · rw [Rd.fail_yes m c p h0 hc] at h; exact hc h.1
  · rw [Rd.fail_no m c p (fun h => h0 h.1)] at h; exact h0 h.1
theorem rhead_any (m : Rd) (w : World) (hm : m.Ok) : Calls Try.prog 67 #[rdV m] w (RHead (hd3 m).1.safe.1 (hd3 m).2.1 (hd3 m).2.2.1 (hd3 m).2.2.2 (hd3 m).1.safe.2 w) := by
  have O1 := Lib.hid (fun w => rone15_any m w hm)
  have ok1 : (m.take ((1 : Nat) : Int)).1.Ok := take_ok _ hm
  have O2 := Lib.hid (fun w => rone15_any _ w ok1)
  have ok2 := take_ok ((1 : Nat) : Int) ok1
  have O3 := Lib.hid (fun w => rone15_any _ w ok2)
  have ok3 := take_ok ((1 : Nat) : Int) ok2
  have l1 := one_le m
  have l2 := one_le (m.take ((1 : Nat) : Int)).1
  have l3 := one_le ((m.take ((1 : Nat) : Int)).1.take ((1 : Nat) : Int)).1
  unfold hd3
  simp only
  generalize (((m.take ((1 : Nat) : Int)).1.take ((1 : Nat) : Int)).1.take ((1 : Nat) : Int)).1 = m3 at *
  generalize numL (((m.take ((1 : Nat) : Int)).1.take ((1 : Nat) : Int)).1.take ((1 : Nat) : Int)).2 = fl at *
  generalize ((m.take ((1 : Nat) : Int)).1.take ((1 : Nat) : Int)).1 = m2 at *
  generalize numL ((m.take ((1 : Nat) : Int)).1.take ((1 : Nat) : Int)).2 = rv at *
  generalize (m.take ((1 : Nat) : Int)).1 = m1 at *
  generalize numL (m.take ((1 : Nat) : Int)).2 = v at *
  have e2 : (UInt8.ofNat rv).toNat = rv := by rw [UInt8.toNat_ofNat']; omega
  have e3 : (UInt8.ofNat fl).toNat = fl := by rw [UInt8.toNat_ofNat']; omega
  have OD : Hid (∀ w, Calls Try.prog 72 #[.int .i64 (v : Nat), .int .i64 (fl : Nat)] w fun e w' => e = .returned (.bool (oddB (v : Nat) (UInt8.ofNat fl))) ∧ w = w') := Lib.hid fun w => by
    have h := odd_any (v : Nat) (UInt8.ofNat fl) w
    rw [e3] at h
    exact h
  have BT : Hid (∀ w, Calls Try.prog 28 #[.int .i64 (fl : Nat), .int .i64 64] w fun e w' => e = .returned (.bool (bt (UInt8.ofNat fl) 64)) ∧ w = w') := Lib.hid fun w => by
    have h := bit_any (UInt8.ofNat fl) 64 w (by decide) (by decide)
    rw [e3] at h
    exact h
  have FL : ∀ (c p : Int), Hid (∀ w, Calls Try.prog 101 #[rdV m3, .int .i64 c, .int .i64 p] w fun e w' => e = .returned (rdV (m3.fail c p)) ∧ Below w.heap.size w w') := fun c p => Lib.hid fun w => rfail_any m3 c p w
  have fin : ∀ (m4 : Rd), m4.Ok → _ → Calls Try.prog 67 #[rdV m] w (RHead m4.safe.1 v rv fl m4.safe.2 w) := fun m4 ok4 hchk => rhead_core m m1 m2 m3 m4 m4.safe.1 v rv fl m4.safe.2 w O1 O2 O3 hchk (Lib.hid fun w => rreadsafe_any m4 w ok4)
  rw [e2, (bt_tb (UInt8.ofNat fl)).2.1.symm]
  by_cases hc : m3.cd = 0
  · have hcb : (m3.cd == 0) = true := by simpa using hc
    rw [if_neg (fun h => h hc)]
    by_cases hl : letters (v : Nat) = 0
    · have ef : fail4 (decide (letters (v : Nat) = 0)) ((rv : Int) == 255) (anB (UInt8.ofNat fl) (allowN (v : Nat))) (decide (((v : Nat) : Int) = 2) && bt (UInt8.ofNat fl) 64) m3 = m3.fail 3 3 := by
        rw [decide_eq_true hl]
        unfold fail4
        simp only [if_true, fail_twice m3 3 3 _ _ (by decide), ite_self]
      rw [ef]
      rcases (letters_zero v).1 hl with h | h
      · exact fin _ (ok3.fail _ _) (.inr (.inr (.inr (.inr (.inr (.inr (.inl ⟨hcb, h, FL 3 3⟩)))))))
      · exact fin _ (ok3.fail _ _) (.inr (.inr (.inr (.inr (.inr (.inl ⟨hcb, by omega, h, FL 3 3⟩))))))
    · have hlz := fun h => hl ((letters_zero v).2 h)
      have g1 : ¬ (v : Int) < 2 := fun h => hlz (.inl h)
      have g2 : ¬ (4 : Int) < v := fun h => hlz (.inr h)
      rw [decide_eq_false hl, ← oddB_an (UInt8.ofNat fl) hl]
      by_cases hr : ((rv : Int) == 255) = true
      · have ef : ∀ x3 x4, fail4 false ((rv : Int) == 255) x3 x4 m3 = m3.fail 1 4 := fun x3 x4 => by
          rw [hr]
          unfold fail4
          simp only [if_true, Bool.false_eq_true, if_false, fail_twice m3 1 4 _ _ (by decide), ite_self]
        rw [ef]
        exact fin _ (ok3.fail _ _) (.inr (.inr (.inr (.inr (.inl ⟨hcb, g1, g2, hr, FL 1 4⟩)))))
      · have hr' : ((rv : Int) == 255) = false := by simpa using hr
        rw [hr']
        cases ho : oddB (v : Nat) (UInt8.ofNat fl) with
        | true =>
          rw [ho] at OD
          have ef : ∀ x4, fail4 false false true x4 m3 = m3.fail 1 5 := fun x4 => by
            unfold fail4
            simp only [if_true, Bool.false_eq_true, if_false, fail_twice m3 1 5 _ _ (by decide), ite_self]
          rw [ef]
          exact fin _ (ok3.fail _ _) (.inr (.inr (.inr (.inl ⟨hcb, g1, g2, hr', OD, FL 1 5⟩))))
        | false =>
          rw [ho] at OD
          by_cases hv2 : ((v : Nat) : Int) = 2
          · have hvb : ((v : Int) == 2) = true := by simpa using hv2
            rw [decide_eq_true hv2]
            cases hb : bt (UInt8.ofNat fl) 64 with
            | true =>
              rw [hb] at BT
              exact fin _ (ok3.fail _ _) (.inr (.inr (.inl ⟨hcb, g1, g2, hr', OD, hvb, BT, FL 3 5⟩)))
            | false =>
              rw [hb] at BT
              exact fin _ ok3 (.inr (.inl ⟨hcb, g1, g2, hr', OD, hvb, BT, rfl⟩))
          · have hvb : ((v : Int) == 2) = false := by simpa using hv2
            rw [decide_eq_false hv2]
            exact fin _ ok3 (.inl ⟨hcb, g1, g2, hr', OD, hvb, rfl⟩)
  · have hcb : (m3.cd == 0) = false := by simpa using hc
    rw [if_pos hc]
    exact fin _ ok3 (.inr (.inr (.inr (.inr (.inr (.inr (.inr ⟨hcb, rfl⟩)))))))
end Go.Proofs.Ytmnmonmbdgedbaa
