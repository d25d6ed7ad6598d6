/- Layer 13 (frame): the document's content, walked. -/
import Derived.Test.YtmnmonmbdgedbaaRf1
import Derived.Deep.Cut
import Derived.Deep.CutRange
namespace Go.Proofs.Ytmnmonmbdgedbaa
open Go.RowKit
set_option linter.unusedVariables false
set_option linter.unusedSimpArgs false

/-- the four blocks of the document's content: the frame, the results, the reader -/
structure Cn (w0 w : World) (fb tb : Nat) (id : List UInt8) (st fm g : Int) (b : List UInt8) (pl : Int) (r : Rd) : Prop where
  f : w.heap[fb]? = some (.cells #[.string ⟨id.toArray⟩, .int .i64 st, .int .i64 fm, .int .i64 g, .string ⟨b.toArray⟩, .int .i64 pl] 100 (0, 0))
  z8 : w.heap[fb + 1]? = some (.cells #[.string ⟨#[]⟩, .int .i64 0, .int .i64 0, .int .i64 0, .string ⟨#[]⟩, .int .i64 0] 100 (0, 0))
  z9 : w.heap[fb + 1 + 1]? = some (.cells #[.string ⟨#[]⟩, .int .i64 0, .int .i64 0, .int .i64 0, .int .i64 0] 103 (0, 0))
  r : InAt 103 w tb r
  k : Below w0.heap.size w0 w
  hw : w0.heap.size ≤ fb
  ht : fb + 1 + 1 < tb
variable {w0 w w' : World} {fb tb : Nat} {id b b' : List UInt8} {st fm g g' pl : Int} {r r' : Rd}
theorem Cn.below (h : Cn w0 w fb tb id st fm g b pl r) (k : Below w.heap.size w w') : Cn w0 w' fb tb id st fm g b pl r :=
  ⟨block_below h.f k, block_below h.z8 k, block_below h.z9 k, h.r.below k, nextB h.k k, h.hw, h.ht⟩
theorem Cn.drew (h : Cn w0 w fb tb id st fm g b pl r) : Cn w0 w.drew fb tb id st fm g b pl r := ⟨h.f, h.z8, h.z9, h.r, h.k.drew, h.hw, h.ht⟩
theorem Cn.setg (h : Cn w0 w fb tb id st fm g b pl r) (x : Int) : Cn w0 (w.setCell ⟨fb, 3, none⟩ (.int .i64 x)) fb tb id st fm x b pl r := by
  have := h.ht
  exact ⟨setCell_at h.f, (heap_set_other _ (by omega)).trans h.z8, (heap_set_other _ (by omega)).trans h.z9, (heap_set_other _ (by omega)).trans h.r, Below.setCell (p := ⟨fb, 3, none⟩) h.k h.hw _, h.hw, h.ht⟩
theorem Cn.setb (h : Cn w0 w fb tb id st fm g b pl r) (x : List UInt8) : Cn w0 (w.setCell ⟨fb, 4, none⟩ (.string ⟨x.toArray⟩)) fb tb id st fm g x pl r := by
  have := h.ht
  exact ⟨setCell_at h.f, (heap_set_other _ (by omega)).trans h.z8, (heap_set_other _ (by omega)).trans h.z9, (heap_set_other _ (by omega)).trans h.r, Below.setCell (p := ⟨fb, 4, none⟩) h.k h.hw _, h.hw, h.ht⟩
theorem Cn.setr (h : Cn w0 w fb tb id st fm g b pl r) (x : Rd) : Cn w0 (((((w.setCell ⟨tb, 0, none⟩ (.string ⟨x.t.toArray⟩)).setCell ⟨tb, 1, none⟩ (.int .i64 x.nx)).setCell ⟨tb, 2, none⟩ (.int .i64 x.bs)).setCell ⟨tb, 3, none⟩ (.int .i64 x.cd)).setCell ⟨tb, 4, none⟩ (.int .i64 x.pl)) fb tb id st fm g b pl x := by
  have := h.ht
  have := h.hw
  have o : ∀ c, c ≠ tb → (((((w.setCell ⟨tb, 0, none⟩ (.string ⟨x.t.toArray⟩)).setCell ⟨tb, 1, none⟩ (.int .i64 x.nx)).setCell ⟨tb, 2, none⟩ (.int .i64 x.bs)).setCell ⟨tb, 3, none⟩ (.int .i64 x.cd)).setCell ⟨tb, 4, none⟩ (.int .i64 x.pl)).heap[c]? = w.heap[c]? := fun c hc => by
    rw [heap_set_other _ hc, heap_set_other _ hc, heap_set_other _ hc, heap_set_other _ hc, heap_set_other _ hc]
  exact ⟨(o _ (by omega)).trans h.f, (o _ (by omega)).trans h.z8, (o _ (by omega)).trans h.z9, store5 h.r rfl, ((((h.k.setCell (show w0.heap.size ≤ tb by omega) _).setCell (show w0.heap.size ≤ tb by omega) _).setCell (show w0.heap.size ≤ tb by omega) _).setCell (show w0.heap.size ≤ tb by omega) _).setCell (show w0.heap.size ≤ tb by omega) _, h.hw, h.ht⟩
theorem Cn.cells (h : Cn w0 w fb tb id st fm g b pl r) : (w.cell? ⟨fb, 0, none⟩ = some (.string ⟨id.toArray⟩) ∧ w.cell? ⟨fb, 1, none⟩ = some (.int .i64 st) ∧ w.cell? ⟨fb, 2, none⟩ = some (.int .i64 fm) ∧ w.cell? ⟨fb, 3, none⟩ = some (.int .i64 g) ∧ w.cell? ⟨fb, 4, none⟩ = some (.string ⟨b.toArray⟩) ∧ w.cell? ⟨fb, 5, none⟩ = some (.int .i64 pl)) ∧
    (w.cell? ⟨tb, 0, none⟩ = some (.string ⟨r.t.toArray⟩) ∧ w.cell? ⟨tb, 1, none⟩ = some (.int .i64 r.nx) ∧ w.cell? ⟨tb, 2, none⟩ = some (.int .i64 r.bs) ∧ w.cell? ⟨tb, 3, none⟩ = some (.int .i64 r.cd) ∧ w.cell? ⟨tb, 4, none⟩ = some (.int .i64 r.pl)) ∧
    (∀ j, w.frozen? ⟨fb, j, none⟩ = false) ∧ (∀ j, w.frozen? ⟨tb, j, none⟩ = false) :=
  ⟨cells6 h.f, ⟨h.r.c0, h.r.c1, h.r.c2, h.r.c3, h.r.c4⟩, fun j => free_at h.f, fun j => h.r.f j⟩
theorem end_cc {P : Program} {fn : Func} {R : Ending → World → Prop} {a : Act} {w : World} {p1 p2 : Tmp} {ty1 ty2 t1 t2 : TypeId} {b1 b2 : Nat} {C1 C2 : Array Value} {d1 d2 : TypeDesc}
    (h : fn.results = #[.cell p1 ty1, .cell p2 ty2]) (hd0 : a.defers = []) (hp1 : a.tmps.getD p1 undef = .pointer (some ⟨b1, 0, none⟩)) (hg1 : w.heap[b1]? = some (.cells C1 t1 (0, 0)))
    (hu1 : P.underlying ty1 = some d1) (hd1 : (match d1 with | .struct _ | .array _ _ => true | _ => false) = true) (hi1 : (P.info? ty1).map (·.size) = some C1.size)
    (hp2 : a.tmps.getD p2 undef = .pointer (some ⟨b2, 0, none⟩)) (hg2 : w.heap[b2]? = some (.cells C2 t2 (0, 0)))
    (hu2 : P.underlying ty2 = some d2) (hd2 : (match d2 with | .struct _ | .array _ _ => true | _ => false) = true) (hi2 : (P.info? ty2).map (·.size) = some C2.size)
    (hR : R (.returned (.tuple #[.agg C1, .agg C2])) w) : bodyPost P fn R .ret a w := by
  refine bodyPost_ret (v := .tuple #[.agg C1, .agg C2]) ?_ hd0 hR
  have hp1' : a.tmps[p1]?.getD undef = .pointer (some ⟨b1, 0, none⟩) := by simpa using hp1
  have hp2' : a.tmps[p2]?.getD undef = .pointer (some ⟨b2, 0, none⟩) := by simpa using hp2
  simp only [results, h]
  simp [hp1', hp2', asAddr, run_loadVar_row w b1 t1 ty1 C1 (0, 0) d1 hg1 hu1 hd1 hi1, run_loadVar_row w b2 t2 ty2 C2 (0, 0) d2 hg2 hu2 hd2 hi2]
theorem Cn.fin (h : Cn w0 w fb tb id st fm g b pl r) : (stores (stores w (fb + 1) 0 [.string ⟨id.toArray⟩, .int .i64 st, .int .i64 fm, .int .i64 g, .string ⟨b.toArray⟩, .int .i64 pl]) (fb + 1 + 1) 0 [.string ⟨r.t.toArray⟩, .int .i64 r.nx, .int .i64 r.bs, .int .i64 r.cd, .int .i64 r.pl]).heap[fb + 1]? = some (.cells #[.string ⟨id.toArray⟩, .int .i64 st, .int .i64 fm, .int .i64 g, .string ⟨b.toArray⟩, .int .i64 pl] 100 (0, 0)) ∧
    (stores (stores w (fb + 1) 0 [.string ⟨id.toArray⟩, .int .i64 st, .int .i64 fm, .int .i64 g, .string ⟨b.toArray⟩, .int .i64 pl]) (fb + 1 + 1) 0 [.string ⟨r.t.toArray⟩, .int .i64 r.nx, .int .i64 r.bs, .int .i64 r.cd, .int .i64 r.pl]).heap[fb + 1 + 1]? = some (.cells #[.string ⟨r.t.toArray⟩, .int .i64 r.nx, .int .i64 r.bs, .int .i64 r.cd, .int .i64 r.pl] 103 (0, 0)) ∧
    Below w0.heap.size w0 (stores (stores w (fb + 1) 0 [.string ⟨id.toArray⟩, .int .i64 st, .int .i64 fm, .int .i64 g, .string ⟨b.toArray⟩, .int .i64 pl]) (fb + 1 + 1) 0 [.string ⟨r.t.toArray⟩, .int .i64 r.nx, .int .i64 r.bs, .int .i64 r.cd, .int .i64 r.pl]) := by
  have hw := h.hw
  have s1 := store6 (v0 := .string ⟨id.toArray⟩) (v1 := .int .i64 st) (v2 := .int .i64 fm) (v3 := .int .i64 g) (v4 := .string ⟨b.toArray⟩) (v5 := .int .i64 pl) h.z8 rfl
  have n1 : fb + 1 ≠ fb + 1 + 1 := by omega
  have n2 : fb + 1 + 1 ≠ fb + 1 := by omega
  have l1 : w0.heap.size ≤ fb + 1 := by omega
  have l2 : w0.heap.size ≤ fb + 1 + 1 := by omega
  refine ⟨?_, ?_, ?_⟩
  · show (World.setCell (World.setCell (World.setCell (World.setCell (World.setCell _ ⟨fb + 1 + 1, 0, none⟩ _) ⟨fb + 1 + 1, 1, none⟩ _) ⟨fb + 1 + 1, 2, none⟩ _) ⟨fb + 1 + 1, 3, none⟩ _) ⟨fb + 1 + 1, 4, none⟩ _).heap[fb + 1]? = _
    rw [heap_set_other _ n1, heap_set_other _ n1, heap_set_other _ n1, heap_set_other _ n1, heap_set_other _ n1]
    exact s1
  · refine store5 (C := #[.string ⟨#[]⟩, .int .i64 0, .int .i64 0, .int .i64 0, .int .i64 0]) ?_ rfl
    show (World.setCell (World.setCell (World.setCell (World.setCell (World.setCell (World.setCell w ⟨fb + 1, 0, none⟩ _) ⟨fb + 1, 1, none⟩ _) ⟨fb + 1, 2, none⟩ _) ⟨fb + 1, 3, none⟩ _) ⟨fb + 1, 4, none⟩ _) ⟨fb + 1, 5, none⟩ _).heap[fb + 1 + 1]? = _
    rw [heap_set_other _ n2, heap_set_other _ n2, heap_set_other _ n2, heap_set_other _ n2, heap_set_other _ n2, heap_set_other _ n2]
    exact h.z9
  · exact (((((((((((h.k.setCell l1 _).setCell l1 _).setCell l1 _).setCell l1 _).setCell l1 _).setCell l1 _).setCell l2 _).setCell l2 _).setCell l2 _).setCell l2 _).setCell l2 _)
theorem Cn.init (w : World) (id : List UInt8) (st fm g : Int) (b : List UInt8) (pl : Int) (r : Rd) :
    Cn w ((((w.alloc (.cells #[.string ⟨id.toArray⟩, .int .i64 st, .int .i64 fm, .int .i64 g, .string ⟨b.toArray⟩, .int .i64 pl] 100)).alloc (.cells #[.string ⟨#[]⟩, .int .i64 0, .int .i64 0, .int .i64 0, .string ⟨#[]⟩, .int .i64 0] 100)).alloc (.cells #[.string ⟨#[]⟩, .int .i64 0, .int .i64 0, .int .i64 0, .int .i64 0] 103)).alloc (.cells #[.string ⟨r.t.toArray⟩, .int .i64 r.nx, .int .i64 r.bs, .int .i64 r.cd, .int .i64 r.pl] 103)) w.heap.size (w.heap.size + 1 + 1 + 1) id st fm g b pl r := by
  have k : ∀ (v : World) (o : Obj), Below v.heap.size v (v.alloc o) := fun v o => (Below.refl _ _).alloc (Nat.le_refl _) o
  have e1 : (w.alloc (.cells #[.string ⟨id.toArray⟩, .int .i64 st, .int .i64 fm, .int .i64 g, .string ⟨b.toArray⟩, .int .i64 pl] 100)).heap.size = w.heap.size + 1 := by simp
  have e2 : ((w.alloc (.cells #[.string ⟨id.toArray⟩, .int .i64 st, .int .i64 fm, .int .i64 g, .string ⟨b.toArray⟩, .int .i64 pl] 100)).alloc (.cells #[.string ⟨#[]⟩, .int .i64 0, .int .i64 0, .int .i64 0, .string ⟨#[]⟩, .int .i64 0] 100)).heap.size = w.heap.size + 1 + 1 := by simp
  have e3 : (((w.alloc (.cells #[.string ⟨id.toArray⟩, .int .i64 st, .int .i64 fm, .int .i64 g, .string ⟨b.toArray⟩, .int .i64 pl] 100)).alloc (.cells #[.string ⟨#[]⟩, .int .i64 0, .int .i64 0, .int .i64 0, .string ⟨#[]⟩, .int .i64 0] 100)).alloc (.cells #[.string ⟨#[]⟩, .int .i64 0, .int .i64 0, .int .i64 0, .int .i64 0] 103)).heap.size = w.heap.size + 1 + 1 + 1 := by simp
  refine ⟨block_below (block_below (block_below (at_a0 w _ _) (k _ _)) (k _ _)) (k _ _), ?_, ?_, ?_, (((k w _).alloc (by simp) _).alloc (by simp; omega) _).alloc (by simp; omega) _, Nat.le_refl _, by omega⟩
  · have h := block_below (block_below (at_a0 (w.alloc (.cells #[.string ⟨id.toArray⟩, .int .i64 st, .int .i64 fm, .int .i64 g, .string ⟨b.toArray⟩, .int .i64 pl] 100)) #[.string ⟨#[]⟩, .int .i64 0, .int .i64 0, .int .i64 0, .string ⟨#[]⟩, .int .i64 0] 100) (k _ (.cells #[.string ⟨#[]⟩, .int .i64 0, .int .i64 0, .int .i64 0, .int .i64 0] 103))) (k _ (.cells #[.string ⟨r.t.toArray⟩, .int .i64 r.nx, .int .i64 r.bs, .int .i64 r.cd, .int .i64 r.pl] 103))
    rw [e1] at h
    exact h
  · have h := block_below (at_a0 ((w.alloc (.cells #[.string ⟨id.toArray⟩, .int .i64 st, .int .i64 fm, .int .i64 g, .string ⟨b.toArray⟩, .int .i64 pl] 100)).alloc (.cells #[.string ⟨#[]⟩, .int .i64 0, .int .i64 0, .int .i64 0, .string ⟨#[]⟩, .int .i64 0] 100)) #[.string ⟨#[]⟩, .int .i64 0, .int .i64 0, .int .i64 0, .int .i64 0] 103) (k _ (.cells #[.string ⟨r.t.toArray⟩, .int .i64 r.nx, .int .i64 r.bs, .int .i64 r.cd, .int .i64 r.pl] 103))
    rw [e2] at h
    exact h
  · have h := at_a0 (((w.alloc (.cells #[.string ⟨id.toArray⟩, .int .i64 st, .int .i64 fm, .int .i64 g, .string ⟨b.toArray⟩, .int .i64 pl] 100)).alloc (.cells #[.string ⟨#[]⟩, .int .i64 0, .int .i64 0, .int .i64 0, .string ⟨#[]⟩, .int .i64 0] 100)).alloc (.cells #[.string ⟨#[]⟩, .int .i64 0, .int .i64 0, .int .i64 0, .int .i64 0] 103)) #[.string ⟨r.t.toArray⟩, .int .i64 r.nx, .int .i64 r.bs, .int .i64 r.cd, .int .i64 r.pl] 103
    rw [e3] at h
    exact h
set_option maxHeartbeats 4000000 in
set_option maxRecDepth 100000 in
theorem rcontent_core (v : Int) (id : List UInt8) (st fm : Int) (b0 : List UInt8) (pl : Int) (data : List UInt8) (at0 : Int) (gp ms sp : Bool) (r0 r1 r2 r3 r4 : Rd) (x l9 : Nat) (sv : Int) (bd bo : List UInt8) (w : World)
    (h0 : rdV r0 = .agg #[.string ⟨data.toArray⟩, .int .i64 0, .int .i64 at0, .int .i64 0, .int .i64 0]) (hb0 : 0 ≤ r1.bs) (hb1 : r1.bs ≤ 3000000000000) (hn1 : (r1.nx : Int) ≤ 1000000000)
    (GR : Hid (∀ w, Calls Try.prog 107 #[.int .i64 v, .int .i64 fm] w fun e w' => e = .returned (.bool gp) ∧ w = w'))
    (ME : Hid (∀ w, Calls Try.prog 111 #[.int .i64 v, .int .i64 fm] w fun e w' => e = .returned (.bool ms) ∧ w = w'))
    (SP : Hid (∀ w, Calls Try.prog 112 #[.int .i64 v, .int .i64 fm] w fun e w' => e = .returned (.bool sp) ∧ w = w'))
    (hg : (gp = true ∧ Hid (∀ w, Calls Try.prog 130 #[.agg #[.string ⟨r0.t.toArray⟩, .int .i64 r0.nx, .int .i64 r0.bs, .int .i64 r0.cd, .int .i64 r0.pl], .int .i64 1] w fun e w' => e = .returned (.tuple #[.agg #[.string ⟨r1.t.toArray⟩, .int .i64 r1.nx, .int .i64 r1.bs, .int .i64 r1.cd, .int .i64 r1.pl], .int .i64 x]) ∧ Below w.heap.size w w')) ∨ (gp = false ∧ r1 = r0 ∧ x = 0))
    (hm : (ms = true ∧ Hid (∀ w, Calls Try.prog 102 #[.agg #[.string ⟨r1.t.toArray⟩, .int .i64 r1.nx, .int .i64 r1.bs, .int .i64 r1.cd, .int .i64 r1.pl]] w fun e w' => e = .returned (.tuple #[.agg #[.string ⟨r2.t.toArray⟩, .int .i64 r2.nx, .int .i64 r2.bs, .int .i64 r2.cd, .int .i64 r2.pl], .int .i64 sv]) ∧ Below w.heap.size w w')) ∨ (ms = false ∧ r2 = r1 ∧ sv = -1))
    (LF : Hid (∀ w, Calls Try.prog 103 #[.agg #[.string ⟨r2.t.toArray⟩, .int .i64 r2.nx, .int .i64 r2.bs, .int .i64 r2.cd, .int .i64 r2.pl]] w fun e w' => e = .returned (.int .i64 l9) ∧ Below w.heap.size w w'))
    (TK : Hid (∀ w, Calls Try.prog 68 #[.agg #[.string ⟨r2.t.toArray⟩, .int .i64 r2.nx, .int .i64 r2.bs, .int .i64 r2.cd, .int .i64 r2.pl], .int .i64 l9] w fun e w' => e = .returned (.tuple #[.agg #[.string ⟨r3.t.toArray⟩, .int .i64 r3.nx, .int .i64 r3.bs, .int .i64 r3.cd, .int .i64 r3.pl], .string ⟨bd.toArray⟩]) ∧ Below w.heap.size w w'))
    (hs : (sp = true ∧ Hid (∀ w, Calls Try.prog 69 #[.string ⟨bd.toArray⟩] w fun e w' => e = .returned (.string ⟨bo.toArray⟩) ∧ w = w')) ∨ (sp = false ∧ bo = bd))
    (hf : (0 ≤ sv ∧ (sv != (bo.length : Int)) = true ∧ Hid (∀ w, Calls Try.prog 101 #[.agg #[.string ⟨r3.t.toArray⟩, .int .i64 r3.nx, .int .i64 r3.bs, .int .i64 r3.cd, .int .i64 r3.pl], .int .i64 1, .int .i64 (r1.bs + r1.nx)] w fun e w' => e = .returned (.agg #[.string ⟨r4.t.toArray⟩, .int .i64 r4.nx, .int .i64 r4.bs, .int .i64 r4.cd, .int .i64 r4.pl]) ∧ Below w.heap.size w w')) ∨ (r4 = r3 ∧ 0 ≤ sv ∧ (sv != (bo.length : Int)) = false) ∨ (r4 = r3 ∧ ¬ 0 ≤ sv))
    : Calls Try.prog 132 #[.int .i64 v, .agg #[.string ⟨id.toArray⟩, .int .i64 st, .int .i64 fm, .int .i64 0, .string ⟨b0.toArray⟩, .int .i64 pl], .string ⟨data.toArray⟩, .int .i64 at0] w fun e w' => e = .returned (.tuple #[.agg #[.string ⟨id.toArray⟩, .int .i64 st, .int .i64 fm, .int .i64 x, .string ⟨bo.toArray⟩, .int .i64 pl], .agg #[.string ⟨r4.t.toArray⟩, .int .i64 r4.nx, .int .i64 r4.bs, .int .i64 r4.cd, .int .i64 r4.pl]]) ∧ Below w.heap.size w w' := by
  have wa : IntKind.i64.wrap (r1.bs + (r1.nx : Int)) = r1.bs + (r1.nx : Int) := IntWalk.i64_in _ (by omega)
  go_enter Try.func132, Try.ntmps132
  go_upto_region 3 with (fail)
  have C := Lib.hid (Cn.init w id st fm 0 [] pl r0)
  simp only [rdV, Value.agg.injEq] at h0
  rw [h0] at C
  obtain ⟨tb, htb⟩ : ∃ tb, tb = w.heap.size + 1 + 1 + 1 := ⟨_, rfl⟩
  rw [← htb] at C
  rw [← htb]
  clear htb
  generalize (((w.alloc (.cells #[.string ⟨id.toArray⟩, .int .i64 st, .int .i64 fm, .int .i64 0, .string ⟨#[]⟩, .int .i64 pl] 100)).alloc (.cells #[.string ⟨#[]⟩, .int .i64 0, .int .i64 0, .int .i64 0, .string ⟨#[]⟩, .int .i64 0] 100)).alloc (.cells #[.string ⟨#[]⟩, .int .i64 0, .int .i64 0, .int .i64 0, .int .i64 0] 103)).alloc (.cells #[.string ⟨data.toArray⟩, .int .i64 0, .int .i64 at0, .int .i64 0, .int .i64 0] 103) = wv at *
  obtain ⟨fb, hfb⟩ : ∃ fb, fb = w.heap.size := ⟨_, rfl⟩
  rw [← hfb] at C
  rw [← hfb]
  clear hfb h0
  obtain ⟨⟨f0, f1, f2, f3, f4, f5⟩, ⟨q0, q1, q2, q3, q4⟩, ff, qf⟩ := C.out.cells; have ff3 := ff 3; have ff4 := ff 4; have qf0 := qf 0; have qf1 := qf 1; have qf2 := qf 2; have qf3 := qf 3; have qf4 := qf 4; clear ff qf
  have hft : fb ≠ tb := by have := C.out.ht; omega
  have htf : tb ≠ fb := by have := C.out.ht; omega
  go_upto_if 20 with (go_at_call 107; refine (GR.out _).mono ?_; rintro e wx ⟨rfl, rfl⟩)
  go_cut [10] from 21 to 26 (fun s10 wx => s10 = .pointer (some ⟨tb, 0, none⟩) ∧ Hid (Cn w wx fb tb id st fm x [] pl r1))
  case first =>
    rcases hg with ⟨rfl, BG⟩ | ⟨rfl, rfl, rfl⟩
    · go_wp2_with (go_at_call 130; refine (BG.out _).mono ?_; rintro e w1 ⟨rfl, hb1⟩; clear f0 f1 f2 f3 f4 f5 q0 q1 q2 q3 q4 ff3 ff4 qf0 qf1 qf2 qf3 qf4; replace C := Lib.hid (C.out.below hb1); clear hb1; obtain ⟨⟨f0, f1, f2, f3, f4, f5⟩, ⟨q0, q1, q2, q3, q4⟩, ff, qf⟩ := C.out.cells; have ff3 := ff 3; have ff4 := ff 4; have qf0 := qf 0; have qf1 := qf 1; have qf2 := qf 2; have qf3 := qf 3; have qf4 := qf 4; clear ff qf)
      go_meet
      exact ⟨rfl, Lib.hid ((C.out.setr r1).setg x)⟩
    · go_wp2_with fail
      go_meet
      exact ⟨rfl, C⟩
  case rest =>
    obtain ⟨rfl, C2⟩ := hcut
    clear C
    clear f0 f1 f2 f3 f4 f5 q0 q1 q2 q3 q4 ff3 ff4 qf0 qf1 qf2 qf3 qf4
    have C := C2
    clear C2
    obtain ⟨⟨f0, f1, f2, f3, f4, f5⟩, ⟨q0, q1, q2, q3, q4⟩, ff, qf⟩ := C.out.cells; have ff3 := ff 3; have ff4 := ff 4; have qf0 := qf 0; have qf1 := qf 1; have qf2 := qf 2; have qf3 := qf 3; have qf4 := qf 4; clear ff qf
    go_upto_if 35 with (go_at_call 111; refine (ME.out _).mono ?_; rintro e wx ⟨rfl, rfl⟩)
    go_cut [10, 11, 12] from 36 to 40 (fun s10 s11 s12 wx => s10 = .pointer (some ⟨tb, 0, none⟩) ∧ s11 = .int .i64 (r1.bs + r1.nx) ∧ s12 = .int .i64 sv ∧ Hid (Cn w wx fb tb id st fm x [] pl r2))
    case first =>
      rcases hm with ⟨rfl, SF⟩ | ⟨rfl, rfl, rfl⟩
      · go_wp2_with (go_at_call 102; refine (SF.out _).mono ?_; rintro e w2 ⟨rfl, hb2⟩; clear f0 f1 f2 f3 f4 f5 q0 q1 q2 q3 q4 ff3 ff4 qf0 qf1 qf2 qf3 qf4; replace C := Lib.hid (C.out.below hb2); clear hb2; obtain ⟨⟨f0, f1, f2, f3, f4, f5⟩, ⟨q0, q1, q2, q3, q4⟩, ff, qf⟩ := C.out.cells; have ff3 := ff 3; have ff4 := ff 4; have qf0 := qf 0; have qf1 := qf 1; have qf2 := qf 2; have qf3 := qf 3; have qf4 := qf 4; clear ff qf)
        go_meet
        exact ⟨rfl, rfl, rfl, Lib.hid (C.out.setr r2)⟩
      · go_wp2_with fail
        go_meet
        exact ⟨rfl, rfl, rfl, C⟩
    case rest =>
      obtain ⟨rfl, rfl, rfl, C2⟩ := hcut
      clear C
      clear f0 f1 f2 f3 f4 f5 q0 q1 q2 q3 q4 ff3 ff4 qf0 qf1 qf2 qf3 qf4
      have C := C2
      clear C2
      obtain ⟨⟨f0, f1, f2, f3, f4, f5⟩, ⟨q0, q1, q2, q3, q4⟩, ff, qf⟩ := C.out.cells; have ff3 := ff 3; have ff4 := ff 4; have qf0 := qf 0; have qf1 := qf 1; have qf2 := qf 2; have qf3 := qf 3; have qf4 := qf 4; clear ff qf
      go_upto_region 9 with (fail)
      go_cut [10] from 41 to 48 (fun s10 wx => s10 = .pointer (some ⟨tb, 0, none⟩) ∧ Hid (Cn w wx fb tb id st fm x bd pl r3))
      case first =>
        refine wp_region_noPanic ?_
        refine wp_region_held_drew (S := fun _ => True) (by kernel_rfl) trivial (fun hHeld => ?_)
        clear hHeld
        try simp only [Act.put, List.setIfInBounds_toArray, List.set_cons_zero, List.set_cons_succ, List.getElem_toArray, List.getElem_cons_zero, List.getElem_cons_succ]
        refine wpAnyH_ready (rs := [0, 1]) (by kernel_rfl) (by simp) ?_
        refine AllReadyH.cons rfl (fun K hK => ?_) ?_
        · go_simp
          refine hK.out _ _ trivial (fun hHeld => ?_)
          clear hK K hHeld
          try simp only [Act.put, List.setIfInBounds_toArray, List.set_cons_zero, List.set_cons_succ, List.getElem_toArray, List.getElem_cons_zero, List.getElem_cons_succ]
          refine wpAnyH_ready (rs := [1]) (by kernel_rfl) (by simp) ?_
          refine AllReadyH.cons rfl (fun K hK => ?_) AllReadyH.nil
          go_simp
          refine hK.out _ _ trivial (fun hHeld => ?_)
          clear hK K hHeld
          try simp only [Act.put, List.setIfInBounds_toArray, List.set_cons_zero, List.set_cons_succ, List.getElem_toArray, List.getElem_cons_zero, List.getElem_cons_succ]
          refine wpAnyH_ready (rs := [2]) (by kernel_rfl) (by simp) ?_
          refine AllReadyH.cons rfl (fun K hK => ?_) AllReadyH.nil
          go_simp
          (go_at_call 103; refine (LF.out _).mono ?_; rintro e w5 ⟨rfl, hb5⟩; clear f0 f1 f2 f3 f4 f5 q0 q1 q2 q3 q4 ff3 ff4 qf0 qf1 qf2 qf3 qf4; replace C := Lib.hid (C.out.below (fr_drewB hb5)); clear hb5; obtain ⟨⟨f0, f1, f2, f3, f4, f5⟩, ⟨q0, q1, q2, q3, q4⟩, ff, qf⟩ := C.out.cells; have ff3 := ff 3; have ff4 := ff 4; have qf0 := qf 0; have qf1 := qf 1; have qf2 := qf 2; have qf3 := qf 3; have qf4 := qf 4; clear ff qf)
          refine hK.out _ _ trivial (fun hHeld => ?_)
          clear hK K hHeld
          try simp only [Act.put, List.setIfInBounds_toArray, List.set_cons_zero, List.set_cons_succ, List.getElem_toArray, List.getElem_cons_zero, List.getElem_cons_succ]
          refine wpAnyH_ready (rs := [3]) (by kernel_rfl) (by simp) ?_
          refine AllReadyH.cons rfl (fun K hK => ?_) AllReadyH.nil
          go_simp
          (go_at_call 68; refine (TK.out _).mono ?_; rintro e w6 ⟨rfl, hb6⟩; clear f0 f1 f2 f3 f4 f5 q0 q1 q2 q3 q4 ff3 ff4 qf0 qf1 qf2 qf3 qf4; replace C := Lib.hid (C.out.below hb6); clear hb6; obtain ⟨⟨f0, f1, f2, f3, f4, f5⟩, ⟨q0, q1, q2, q3, q4⟩, ff, qf⟩ := C.out.cells; have ff3 := ff 3; have ff4 := ff 4; have qf0 := qf 0; have qf1 := qf 1; have qf2 := qf 2; have qf3 := qf 3; have qf4 := qf 4; clear ff qf)
          refine hK.out _ _ trivial (fun hHeld => ?_)
          clear hK K hHeld
          try simp only [Act.put, List.setIfInBounds_toArray, List.set_cons_zero, List.set_cons_succ, List.getElem_toArray, List.getElem_cons_zero, List.getElem_cons_succ]
          refine wpAnyH_take (i := 4) (v := ?va1) rfl (by kernel_rfl) (by kernel_rfl) (by kernel_rfl) (fun _ _ _ h => h) (Or.inl ⟨by rfl, ?hya1⟩) trivial ?ra1
          case hya1 => (intro w hSw; go_simp; first | done | with_reducible rfl)
          try simp only [Act.put, List.setIfInBounds_toArray, List.set_cons_zero, List.set_cons_succ, List.getElem_toArray, List.getElem_cons_zero, List.getElem_cons_succ]
          refine wpAnyH_take (i := 5) (v := ?vb1) rfl (by kernel_rfl) (by kernel_rfl) (by kernel_rfl) (fun _ _ _ h => h) (Or.inl ⟨by rfl, ?hyb1⟩) trivial ?rb1
          case hyb1 => (intro w hSw; go_simp; first | done | with_reducible rfl)
          try simp only [Act.put, List.setIfInBounds_toArray, List.set_cons_zero, List.set_cons_succ, List.getElem_toArray, List.getElem_cons_zero, List.getElem_cons_succ]
          refine wpAnyH_take (i := 6) (v := ?vc1) rfl (by kernel_rfl) (by kernel_rfl) (by kernel_rfl) (fun _ _ _ h => h) (Or.inl ⟨by rfl, ?hyc1⟩) trivial ?rc1
          case hyc1 => (intro w hSw; go_simp; first | done | with_reducible rfl)
          try simp only [Act.put, List.setIfInBounds_toArray, List.set_cons_zero, List.set_cons_succ, List.getElem_toArray, List.getElem_cons_zero, List.getElem_cons_succ]
          refine wpAnyH_ready (rs := [7]) (by kernel_rfl) (by simp) ?_
          refine AllReadyH.cons rfl (fun K hK => ?_) AllReadyH.nil
          go_simp
          refine hK.out _ _ trivial (fun hHeld => ?_)
          clear hK K hHeld
          try simp only [Act.put, List.setIfInBounds_toArray, List.set_cons_zero, List.set_cons_succ, List.getElem_toArray, List.getElem_cons_zero, List.getElem_cons_succ]
          refine wpAnyH_take (i := 8) (v := ?vz1) rfl (by kernel_rfl) (by kernel_rfl) (by kernel_rfl) (fun _ _ _ h => h) (Or.inl ⟨by rfl, ?hyz1⟩) trivial ?rz1
          case hyz1 => (intro w hSw; go_simp; first | done | with_reducible rfl)
          try simp only [Act.put, List.setIfInBounds_toArray, List.set_cons_zero, List.set_cons_succ, List.getElem_toArray, List.getElem_cons_zero, List.getElem_cons_succ]
          refine wpAnyH_ready (rs := [9]) (by kernel_rfl) (by simp) ?_
          refine AllReadyH.cons rfl (fun K hK => ?_) AllReadyH.nil
          go_simp
          refine hK.out _ _ trivial (fun hHeld => ?_)
          clear hK K hHeld
          try simp only [Act.put, List.setIfInBounds_toArray, List.set_cons_zero, List.set_cons_succ, List.getElem_toArray, List.getElem_cons_zero, List.getElem_cons_succ]
          refine wpAnyH_done (by kernel_rfl) ?_ _
          refine NoPanic.normal ?_
          go_wp2_with fail
          go_meet
          exact ⟨rfl, Lib.hid ((C.out.setr r3).setb bd)⟩
        · refine AllReadyH.cons rfl (fun K hK => ?_) AllReadyH.nil
          go_simp
          refine hK.out _ _ trivial (fun hHeld => ?_)
          clear hK K hHeld
          try simp only [Act.put, List.setIfInBounds_toArray, List.set_cons_zero, List.set_cons_succ, List.getElem_toArray, List.getElem_cons_zero, List.getElem_cons_succ]
          refine wpAnyH_ready (rs := [0, 2]) (by kernel_rfl) (by simp) ?_
          refine AllReadyH.cons rfl (fun K hK => ?_) ?_
          · go_simp
            refine hK.out _ _ trivial (fun hHeld => ?_)
            clear hK K hHeld
            try simp only [Act.put, List.setIfInBounds_toArray, List.set_cons_zero, List.set_cons_succ, List.getElem_toArray, List.getElem_cons_zero, List.getElem_cons_succ]
            refine wpAnyH_ready (rs := [2]) (by kernel_rfl) (by simp) ?_
            refine AllReadyH.cons rfl (fun K hK => ?_) AllReadyH.nil
            go_simp
            (go_at_call 103; refine (LF.out _).mono ?_; rintro e w5 ⟨rfl, hb5⟩; clear f0 f1 f2 f3 f4 f5 q0 q1 q2 q3 q4 ff3 ff4 qf0 qf1 qf2 qf3 qf4; replace C := Lib.hid (C.out.below (fr_drewB hb5)); clear hb5; obtain ⟨⟨f0, f1, f2, f3, f4, f5⟩, ⟨q0, q1, q2, q3, q4⟩, ff, qf⟩ := C.out.cells; have ff3 := ff 3; have ff4 := ff 4; have qf0 := qf 0; have qf1 := qf 1; have qf2 := qf 2; have qf3 := qf 3; have qf4 := qf 4; clear ff qf)
            refine hK.out _ _ trivial (fun hHeld => ?_)
            clear hK K hHeld
            try simp only [Act.put, List.setIfInBounds_toArray, List.set_cons_zero, List.set_cons_succ, List.getElem_toArray, List.getElem_cons_zero, List.getElem_cons_succ]
            refine wpAnyH_ready (rs := [3]) (by kernel_rfl) (by simp) ?_
            refine AllReadyH.cons rfl (fun K hK => ?_) AllReadyH.nil
            go_simp
            (go_at_call 68; refine (TK.out _).mono ?_; rintro e w6 ⟨rfl, hb6⟩; clear f0 f1 f2 f3 f4 f5 q0 q1 q2 q3 q4 ff3 ff4 qf0 qf1 qf2 qf3 qf4; replace C := Lib.hid (C.out.below hb6); clear hb6; obtain ⟨⟨f0, f1, f2, f3, f4, f5⟩, ⟨q0, q1, q2, q3, q4⟩, ff, qf⟩ := C.out.cells; have ff3 := ff 3; have ff4 := ff 4; have qf0 := qf 0; have qf1 := qf 1; have qf2 := qf 2; have qf3 := qf 3; have qf4 := qf 4; clear ff qf)
            refine hK.out _ _ trivial (fun hHeld => ?_)
            clear hK K hHeld
            try simp only [Act.put, List.setIfInBounds_toArray, List.set_cons_zero, List.set_cons_succ, List.getElem_toArray, List.getElem_cons_zero, List.getElem_cons_succ]
            refine wpAnyH_take (i := 4) (v := ?va2) rfl (by kernel_rfl) (by kernel_rfl) (by kernel_rfl) (fun _ _ _ h => h) (Or.inl ⟨by rfl, ?hya2⟩) trivial ?ra2
            case hya2 => (intro w hSw; go_simp; first | done | with_reducible rfl)
            try simp only [Act.put, List.setIfInBounds_toArray, List.set_cons_zero, List.set_cons_succ, List.getElem_toArray, List.getElem_cons_zero, List.getElem_cons_succ]
            refine wpAnyH_take (i := 5) (v := ?vb2) rfl (by kernel_rfl) (by kernel_rfl) (by kernel_rfl) (fun _ _ _ h => h) (Or.inl ⟨by rfl, ?hyb2⟩) trivial ?rb2
            case hyb2 => (intro w hSw; go_simp; first | done | with_reducible rfl)
            try simp only [Act.put, List.setIfInBounds_toArray, List.set_cons_zero, List.set_cons_succ, List.getElem_toArray, List.getElem_cons_zero, List.getElem_cons_succ]
            refine wpAnyH_take (i := 6) (v := ?vc2) rfl (by kernel_rfl) (by kernel_rfl) (by kernel_rfl) (fun _ _ _ h => h) (Or.inl ⟨by rfl, ?hyc2⟩) trivial ?rc2
            case hyc2 => (intro w hSw; go_simp; first | done | with_reducible rfl)
            try simp only [Act.put, List.setIfInBounds_toArray, List.set_cons_zero, List.set_cons_succ, List.getElem_toArray, List.getElem_cons_zero, List.getElem_cons_succ]
            refine wpAnyH_ready (rs := [7]) (by kernel_rfl) (by simp) ?_
            refine AllReadyH.cons rfl (fun K hK => ?_) AllReadyH.nil
            go_simp
            refine hK.out _ _ trivial (fun hHeld => ?_)
            clear hK K hHeld
            try simp only [Act.put, List.setIfInBounds_toArray, List.set_cons_zero, List.set_cons_succ, List.getElem_toArray, List.getElem_cons_zero, List.getElem_cons_succ]
            refine wpAnyH_take (i := 8) (v := ?vz2) rfl (by kernel_rfl) (by kernel_rfl) (by kernel_rfl) (fun _ _ _ h => h) (Or.inl ⟨by rfl, ?hyz2⟩) trivial ?rz2
            case hyz2 => (intro w hSw; go_simp; first | done | with_reducible rfl)
            try simp only [Act.put, List.setIfInBounds_toArray, List.set_cons_zero, List.set_cons_succ, List.getElem_toArray, List.getElem_cons_zero, List.getElem_cons_succ]
            refine wpAnyH_ready (rs := [9]) (by kernel_rfl) (by simp) ?_
            refine AllReadyH.cons rfl (fun K hK => ?_) AllReadyH.nil
            go_simp
            refine hK.out _ _ trivial (fun hHeld => ?_)
            clear hK K hHeld
            try simp only [Act.put, List.setIfInBounds_toArray, List.set_cons_zero, List.set_cons_succ, List.getElem_toArray, List.getElem_cons_zero, List.getElem_cons_succ]
            refine wpAnyH_done (by kernel_rfl) ?_ _
            refine NoPanic.normal ?_
            go_wp2_with fail
            go_meet
            exact ⟨rfl, Lib.hid ((C.out.setr r3).setb bd)⟩
          · refine AllReadyH.cons rfl (fun K hK => ?_) AllReadyH.nil
            go_simp
            (go_at_call 103; refine (LF.out _).mono ?_; rintro e w5 ⟨rfl, hb5⟩; clear f0 f1 f2 f3 f4 f5 q0 q1 q2 q3 q4 ff3 ff4 qf0 qf1 qf2 qf3 qf4; replace C := Lib.hid (C.out.below (fr_drewB hb5)); clear hb5; obtain ⟨⟨f0, f1, f2, f3, f4, f5⟩, ⟨q0, q1, q2, q3, q4⟩, ff, qf⟩ := C.out.cells; have ff3 := ff 3; have ff4 := ff 4; have qf0 := qf 0; have qf1 := qf 1; have qf2 := qf 2; have qf3 := qf 3; have qf4 := qf 4; clear ff qf)
            refine hK.out _ _ trivial (fun hHeld => ?_)
            clear hK K hHeld
            try simp only [Act.put, List.setIfInBounds_toArray, List.set_cons_zero, List.set_cons_succ, List.getElem_toArray, List.getElem_cons_zero, List.getElem_cons_succ]
            refine wpAnyH_ready (rs := [0]) (by kernel_rfl) (by simp) ?_
            refine AllReadyH.cons rfl (fun K hK => ?_) AllReadyH.nil
            go_simp
            refine hK.out _ _ trivial (fun hHeld => ?_)
            clear hK K hHeld
            try simp only [Act.put, List.setIfInBounds_toArray, List.set_cons_zero, List.set_cons_succ, List.getElem_toArray, List.getElem_cons_zero, List.getElem_cons_succ]
            refine wpAnyH_ready (rs := [3]) (by kernel_rfl) (by simp) ?_
            refine AllReadyH.cons rfl (fun K hK => ?_) AllReadyH.nil
            go_simp
            (go_at_call 68; refine (TK.out _).mono ?_; rintro e w6 ⟨rfl, hb6⟩; clear f0 f1 f2 f3 f4 f5 q0 q1 q2 q3 q4 ff3 ff4 qf0 qf1 qf2 qf3 qf4; replace C := Lib.hid (C.out.below hb6); clear hb6; obtain ⟨⟨f0, f1, f2, f3, f4, f5⟩, ⟨q0, q1, q2, q3, q4⟩, ff, qf⟩ := C.out.cells; have ff3 := ff 3; have ff4 := ff 4; have qf0 := qf 0; have qf1 := qf 1; have qf2 := qf 2; have qf3 := qf 3; have qf4 := qf 4; clear ff qf)
            refine hK.out _ _ trivial (fun hHeld => ?_)
            clear hK K hHeld
            try simp only [Act.put, List.setIfInBounds_toArray, List.set_cons_zero, List.set_cons_succ, List.getElem_toArray, List.getElem_cons_zero, List.getElem_cons_succ]
            refine wpAnyH_take (i := 4) (v := ?va3) rfl (by kernel_rfl) (by kernel_rfl) (by kernel_rfl) (fun _ _ _ h => h) (Or.inl ⟨by rfl, ?hya3⟩) trivial ?ra3
            case hya3 => (intro w hSw; go_simp; first | done | with_reducible rfl)
            try simp only [Act.put, List.setIfInBounds_toArray, List.set_cons_zero, List.set_cons_succ, List.getElem_toArray, List.getElem_cons_zero, List.getElem_cons_succ]
            refine wpAnyH_take (i := 5) (v := ?vb3) rfl (by kernel_rfl) (by kernel_rfl) (by kernel_rfl) (fun _ _ _ h => h) (Or.inl ⟨by rfl, ?hyb3⟩) trivial ?rb3
            case hyb3 => (intro w hSw; go_simp; first | done | with_reducible rfl)
            try simp only [Act.put, List.setIfInBounds_toArray, List.set_cons_zero, List.set_cons_succ, List.getElem_toArray, List.getElem_cons_zero, List.getElem_cons_succ]
            refine wpAnyH_take (i := 6) (v := ?vc3) rfl (by kernel_rfl) (by kernel_rfl) (by kernel_rfl) (fun _ _ _ h => h) (Or.inl ⟨by rfl, ?hyc3⟩) trivial ?rc3
            case hyc3 => (intro w hSw; go_simp; first | done | with_reducible rfl)
            try simp only [Act.put, List.setIfInBounds_toArray, List.set_cons_zero, List.set_cons_succ, List.getElem_toArray, List.getElem_cons_zero, List.getElem_cons_succ]
            refine wpAnyH_ready (rs := [7]) (by kernel_rfl) (by simp) ?_
            refine AllReadyH.cons rfl (fun K hK => ?_) AllReadyH.nil
            go_simp
            refine hK.out _ _ trivial (fun hHeld => ?_)
            clear hK K hHeld
            try simp only [Act.put, List.setIfInBounds_toArray, List.set_cons_zero, List.set_cons_succ, List.getElem_toArray, List.getElem_cons_zero, List.getElem_cons_succ]
            refine wpAnyH_take (i := 8) (v := ?vz3) rfl (by kernel_rfl) (by kernel_rfl) (by kernel_rfl) (fun _ _ _ h => h) (Or.inl ⟨by rfl, ?hyz3⟩) trivial ?rz3
            case hyz3 => (intro w hSw; go_simp; first | done | with_reducible rfl)
            try simp only [Act.put, List.setIfInBounds_toArray, List.set_cons_zero, List.set_cons_succ, List.getElem_toArray, List.getElem_cons_zero, List.getElem_cons_succ]
            refine wpAnyH_ready (rs := [9]) (by kernel_rfl) (by simp) ?_
            refine AllReadyH.cons rfl (fun K hK => ?_) AllReadyH.nil
            go_simp
            refine hK.out _ _ trivial (fun hHeld => ?_)
            clear hK K hHeld
            try simp only [Act.put, List.setIfInBounds_toArray, List.set_cons_zero, List.set_cons_succ, List.getElem_toArray, List.getElem_cons_zero, List.getElem_cons_succ]
            refine wpAnyH_done (by kernel_rfl) ?_ _
            refine NoPanic.normal ?_
            go_wp2_with fail
            go_meet
            exact ⟨rfl, Lib.hid ((C.out.setr r3).setb bd)⟩
      case rest =>
        obtain ⟨rfl, C2⟩ := hcut
        clear C
        clear f0 f1 f2 f3 f4 f5 q0 q1 q2 q3 q4 ff3 ff4 qf0 qf1 qf2 qf3 qf4
        have C := C2
        clear C2
        obtain ⟨⟨f0, f1, f2, f3, f4, f5⟩, ⟨q0, q1, q2, q3, q4⟩, ff, qf⟩ := C.out.cells; have ff3 := ff 3; have ff4 := ff 4; have qf0 := qf 0; have qf1 := qf 1; have qf2 := qf 2; have qf3 := qf 3; have qf4 := qf 4; clear ff qf
        go_upto_if 52 with (go_at_call 112; refine (SP.out _).mono ?_; rintro e wx ⟨rfl, rfl⟩)
        go_cut [10] from 53 to 56 (fun s10 wx => s10 = .pointer (some ⟨tb, 0, none⟩) ∧ Hid (Cn w wx fb tb id st fm x bo pl r3))
        case first =>
          rcases hs with ⟨rfl, DR⟩ | ⟨rfl, rfl⟩
          · go_wp2_with (go_at_call 69; refine (DR.out _).mono ?_; rintro e wx ⟨rfl, rfl⟩)
            go_meet
            exact ⟨rfl, Lib.hid (C.out.setb bo)⟩
          · go_wp2_with fail
            go_meet
            exact ⟨rfl, C⟩
        case rest =>
          obtain ⟨rfl, C2⟩ := hcut
          clear C
          clear f0 f1 f2 f3 f4 f5 q0 q1 q2 q3 q4 ff3 ff4 qf0 qf1 qf2 qf3 qf4
          have C := C2
          clear C2
          obtain ⟨⟨f0, f1, f2, f3, f4, f5⟩, ⟨q0, q1, q2, q3, q4⟩, ff, qf⟩ := C.out.cells; have ff3 := ff 3; have ff4 := ff 4; have qf0 := qf 0; have qf1 := qf 1; have qf2 := qf 2; have qf3 := qf 3; have qf4 := qf 4; clear ff qf
          rcases hf with ⟨g1, g2, FL⟩ | ⟨rfl, g1, g2⟩ | ⟨rfl, g1⟩
          · go_upto_region 14 with (go_at_call 101; refine (FL.out _).mono ?_; rintro e w7 ⟨rfl, hb7⟩; clear f0 f1 f2 f3 f4 f5 q0 q1 q2 q3 q4 ff3 ff4 qf0 qf1 qf2 qf3 qf4; replace C := Lib.hid (C.out.below hb7); clear hb7; obtain ⟨⟨f0, f1, f2, f3, f4, f5⟩, ⟨q0, q1, q2, q3, q4⟩, ff, qf⟩ := C.out.cells; have ff3 := ff 3; have ff4 := ff 4; have qf0 := qf 0; have qf1 := qf 1; have qf2 := qf 2; have qf3 := qf 3; have qf4 := qf 4; clear ff qf)
            replace C := Lib.hid (C.out.setr r4)
            clear f0 f1 f2 f3 f4 f5 q0 q1 q2 q3 q4 ff3 ff4 qf0 qf1 qf2 qf3 qf4
            generalize (((((w7.setCell ⟨tb, 0, none⟩ (.string ⟨r4.t.toArray⟩)).setCell ⟨tb, 1, none⟩ (.int .i64 r4.nx)).setCell ⟨tb, 2, none⟩ (.int .i64 r4.bs)).setCell ⟨tb, 3, none⟩ (.int .i64 r4.cd)).setCell ⟨tb, 4, none⟩ (.int .i64 r4.pl)) = wv6 at *
            obtain ⟨⟨f0, f1, f2, f3, f4, f5⟩, ⟨q0, q1, q2, q3, q4⟩, ff, qf⟩ := C.out.cells; have ff3 := ff 3; have ff4 := ff 4; have qf0 := qf 0; have qf1 := qf 1; have qf2 := qf 2; have qf3 := qf 3; have qf4 := qf 4; clear ff qf
            obtain ⟨y0, y1, y2, y3, y4, y5⟩ := cells6 (C.out.z8); obtain ⟨yf0, yf1, yf2, yf3, yf4, yf5⟩ := frees6 (C.out.z8)
            obtain ⟨z0, z1, z2, z3, z4⟩ := cells5 (C.out.z9); obtain ⟨zf0, zf1, zf2, zf3, zf4⟩ := frees5 (C.out.z9)
            have ht1 : tb ≠ fb + 1 := by have := C.out.ht; omega
            have ht2 : fb + 1 ≠ tb := by have := C.out.ht; omega
            go_region
            all_goals (go_wp2; try simp only [Act.put, List.setIfInBounds_toArray, List.set_cons_zero, List.set_cons_succ, List.getElem_toArray, List.getElem_cons_zero, List.getElem_cons_succ])
            all_goals (obtain ⟨h8, h9, hk⟩ := C.out.fin; exact end_cc rfl rfl rfl (rf_block_drew h8) Try.underlying100 rfl (by kernel_rfl) rfl (rf_block_drew h9) Try.underlying103 rfl info_ref01In ⟨rfl, hk.drew⟩)
          · go_upto_region 14 with (fail)
            obtain ⟨y0, y1, y2, y3, y4, y5⟩ := cells6 (C.out.z8); obtain ⟨yf0, yf1, yf2, yf3, yf4, yf5⟩ := frees6 (C.out.z8)
            obtain ⟨z0, z1, z2, z3, z4⟩ := cells5 (C.out.z9); obtain ⟨zf0, zf1, zf2, zf3, zf4⟩ := frees5 (C.out.z9)
            have ht1 : tb ≠ fb + 1 := by have := C.out.ht; omega
            have ht2 : fb + 1 ≠ tb := by have := C.out.ht; omega
            go_region
            all_goals (go_wp2; try simp only [Act.put, List.setIfInBounds_toArray, List.set_cons_zero, List.set_cons_succ, List.getElem_toArray, List.getElem_cons_zero, List.getElem_cons_succ])
            all_goals (obtain ⟨h8, h9, hk⟩ := C.out.fin; exact end_cc rfl rfl rfl (rf_block_drew h8) Try.underlying100 rfl (by kernel_rfl) rfl (rf_block_drew h9) Try.underlying103 rfl info_ref01In ⟨rfl, hk.drew⟩)
          · go_upto_region 14 with (fail)
            obtain ⟨y0, y1, y2, y3, y4, y5⟩ := cells6 (C.out.z8); obtain ⟨yf0, yf1, yf2, yf3, yf4, yf5⟩ := frees6 (C.out.z8)
            obtain ⟨z0, z1, z2, z3, z4⟩ := cells5 (C.out.z9); obtain ⟨zf0, zf1, zf2, zf3, zf4⟩ := frees5 (C.out.z9)
            have ht1 : tb ≠ fb + 1 := by have := C.out.ht; omega
            have ht2 : fb + 1 ≠ tb := by have := C.out.ht; omega
            go_region
            all_goals (go_wp2; try simp only [Act.put, List.setIfInBounds_toArray, List.set_cons_zero, List.set_cons_succ, List.getElem_toArray, List.getElem_cons_zero, List.getElem_cons_succ])
            all_goals (obtain ⟨h8, h9, hk⟩ := C.out.fin; exact end_cc rfl rfl rfl (rf_block_drew h8) Try.underlying100 rfl (by kernel_rfl) rfl (rf_block_drew h9) Try.underlying103 rfl info_ref01In ⟨rfl, hk.drew⟩)
end Go.Proofs.Ytmnmonmbdgedbaa
