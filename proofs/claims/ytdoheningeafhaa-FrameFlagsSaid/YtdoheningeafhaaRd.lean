/- A reader (octet.In) as plain data, and what each of its methods comes to. -/
import Derived.Test.YtdoheningeafhaaBase
import Derived.Deep.Draws
import Derived.WalkSmall
namespace Go.Proofs.Ytdoheningeafhaa
open Go.RowKit

/-- a reader: its text, the next place, the base, the fault's number and place -/
structure Rd where
  t : List UInt8
  nx : Nat
  bs : Int
  cd : Int
  pl : Int

namespace Rd
/-- sizes that the program's callers keep -/
def Ok (m : Rd) : Prop := m.nx ≤ m.t.length ∧ m.t.length ≤ 1000000000 ∧ 0 ≤ m.bs ∧ m.bs ≤ 3000000000000
def fail (m : Rd) (c p : Int) : Rd := if m.cd = 0 ∧ c ≠ 0 then { m with cd := c, pl := p } else m
def short (m : Rd) : Rd := m.fail 1 (m.bs + m.t.length)
def left (m : Rd) : Int := if m.cd = 0 then (m.t.length : Int) - m.nx else 0
def take (m : Rd) (n : Int) : Rd × List UInt8 :=
  if m.cd = 0 then
    if n < 0 ∨ (m.t.length : Int) - m.nx < n then (m.short, [])
    else ({ m with nx := m.nx + n.toNat }, (m.t.drop m.nx).take n.toNat)
  else (m, [])
def rest (m : Rd) : Rd × List UInt8 := m.take m.left
def peek (m : Rd) (n : Int) : List UInt8 := if m.cd = 0 then (m.t.drop m.nx).take n.toNat else []

theorem fail_t (m : Rd) (c p : Int) : (m.fail c p).t = m.t := by unfold fail; split <;> rfl
theorem fail_nx (m : Rd) (c p : Int) : (m.fail c p).nx = m.nx := by unfold fail; split <;> rfl
theorem fail_bs (m : Rd) (c p : Int) : (m.fail c p).bs = m.bs := by unfold fail; split <;> rfl
theorem Ok.fail {m : Rd} (h : m.Ok) (c p : Int) : (m.fail c p).Ok := by unfold Ok; rw [fail_t, fail_nx, fail_bs]; exact h
theorem fail_no (m : Rd) (c p : Int) (h : ¬ (m.cd = 0 ∧ c ≠ 0)) : m.fail c p = m := if_neg h
theorem fail_yes (m : Rd) (c p : Int) (h : m.cd = 0) (hc : c ≠ 0) : m.fail c p = { m with cd := c, pl := p } := if_pos ⟨h, hc⟩
end Rd

/-- block b holds the reader m -/
def InAt (T : TypeId) (w : World) (b : Nat) (m : Rd) : Prop :=
  w.heap[b]? = some (.cells #[.string ⟨m.t.toArray⟩, .int .i64 m.nx, .int .i64 m.bs, .int .i64 m.cd, .int .i64 m.pl] T (0, 0))

section
variable {T : TypeId} {w : World} {b : Nat} {m : Rd}
theorem cell_at {C : Array Value} {e : TypeId} {j : Nat} (h : w.heap[b]? = some (.cells C e (0, 0))) : w.cell? ⟨b, j, none⟩ = C[j]? := by simp [World.cell?, h]
theorem free_at {C : Array Value} {e : TypeId} {j : Nat} (h : w.heap[b]? = some (.cells C e (0, 0))) : w.frozen? ⟨b, j, none⟩ = false := by simp [World.frozen?, h]
theorem InAt.lt (h : InAt T w b m) : b < w.heap.size := (Array.getElem?_eq_some_iff.1 h).1
theorem InAt.c0 (h : InAt T w b m) : w.cell? ⟨b, 0, none⟩ = some (.string ⟨m.t.toArray⟩) := cell_at h
theorem InAt.c1 (h : InAt T w b m) : w.cell? ⟨b, 1, none⟩ = some (.int .i64 m.nx) := cell_at h
theorem InAt.c2 (h : InAt T w b m) : w.cell? ⟨b, 2, none⟩ = some (.int .i64 m.bs) := cell_at h
theorem InAt.c3 (h : InAt T w b m) : w.cell? ⟨b, 3, none⟩ = some (.int .i64 m.cd) := cell_at h
theorem InAt.c4 (h : InAt T w b m) : w.cell? ⟨b, 4, none⟩ = some (.int .i64 m.pl) := cell_at h
theorem InAt.f (h : InAt T w b m) (j : Nat) : w.frozen? ⟨b, j, none⟩ = false := free_at h
theorem InAt.below {w' : World} (h : InAt T w b m) (hb : Below w.heap.size w w') : InAt T w' b m := (hb.block b h.lt).trans h
theorem InAt.drewN (h : InAt T w b m) (n : Nat) : InAt T (w.drewN n) b m := h
theorem InAt.drew (h : InAt T w b m) : InAt T w.drew b m := h
theorem InAt.cells (h : InAt T w b m) : w.cell? ⟨b, 0, none⟩ = some (.string ⟨m.t.toArray⟩) ∧ w.cell? ⟨b, 1, none⟩ = some (.int .i64 m.nx) ∧ w.cell? ⟨b, 2, none⟩ = some (.int .i64 m.bs) ∧
    w.cell? ⟨b, 3, none⟩ = some (.int .i64 m.cd) ∧ w.cell? ⟨b, 4, none⟩ = some (.int .i64 m.pl) ∧ w.frozen? ⟨b, 1, none⟩ = false ∧ w.frozen? ⟨b, 3, none⟩ = false ∧ w.frozen? ⟨b, 4, none⟩ = false :=
  ⟨h.c0, h.c1, h.c2, h.c3, h.c4, h.f 1, h.f 3, h.f 4⟩
end

theorem setCell_at {w : World} {b j : Nat} {C : Array Value} {e : TypeId} {v : Value} (h : w.heap[b]? = some (.cells C e (0, 0))) :
    (w.setCell ⟨b, j, none⟩ v).heap[b]? = some (.cells (C.setIfInBounds j v) e (0, 0)) := by
  simp [World.setCell, Array.getElem?_modify, h]
theorem InAt.set1 {T : TypeId} {w : World} {b : Nat} {m : Rd} (h : InAt T w b m) (n : Nat) : InAt T (w.setCell ⟨b, 1, none⟩ (.int .i64 n)) b { m with nx := n } := setCell_at h
theorem InAt.set34 {T : TypeId} {w : World} {b : Nat} {m : Rd} (h : InAt T w b m) (c p : Int) : InAt T ((w.setCell ⟨b, 3, none⟩ (.int .i64 c)).setCell ⟨b, 4, none⟩ (.int .i64 p)) b { m with cd := c, pl := p } :=
  setCell_at (setCell_at h)

/-- 'only block b has turned, and new blocks have come' -/
def Only (b : Nat) (w w' : World) : Prop := w.grownBy w' (some b)
theorem Only.refl (b : Nat) (w : World) : Only b w w := ⟨rfl, rfl, rfl, Nat.le_refl _, fun _ _ _ => rfl⟩
theorem Only.trans {b : Nat} {u v w : World} (h : Only b u v) (k : Only b v w) : Only b u w :=
  ⟨k.os.trans h.os, k.tape.trans h.tape, k.output.trans h.output, Nat.le_trans h.size k.size, fun j hj hne => (k.block j (Nat.lt_of_lt_of_le hj h.size) hne).trans (h.block j hj hne)⟩
theorem Only.of_below {b : Nat} {w w' : World} (h : Below w.heap.size w w') : Only b w w' := ⟨h.os, h.tape, h.output, h.size, fun k hk _ => h.block k hk⟩
theorem Only.drewN {b : Nat} {w w' : World} (h : Only b w w') (n : Nat) : Only b w (w'.drewN n) := ⟨h.os, h.tape, h.output, h.size, h.block⟩
theorem Only.drew {b : Nat} {w w' : World} (h : Only b w w') : Only b w w'.drew := ⟨h.os, h.tape, h.output, h.size, h.block⟩
theorem Only.set {b j : Nat} {w : World} (v : Value) : Only b w (w.setCell ⟨b, j, none⟩ v) :=
  ⟨rfl, rfl, rfl, by simp [World.setCell], fun k hk hne => Below.heap_setCell w _ v k (by intro e; exact hne (by rw [e]))⟩
theorem Only.below {b B : Nat} {w w' : World} (h : Only b w w') (hb : B ≤ b) (hB : B ≤ w.heap.size) : Below B w w' :=
  ⟨h.os, h.tape, h.output, h.size, fun k hk => h.block k (by omega) (by intro e; have := Option.some.inj e; omega)⟩
theorem InAt.only {T : TypeId} {w w' : World} {b c : Nat} {m : Rd} (h : InAt T w b m) (k : Only c w w') (hne : b ≠ c) : InAt T w' b m := (k.block b h.lt (by intro e; exact hne (Option.some.inj e))).trans h
theorem bcell {W w1 : World} (hb : Below W.heap.size W w1) : (∀ b o, b < W.heap.size → w1.cell? ⟨b, o, none⟩ = W.cell? ⟨b, o, none⟩) ∧ (∀ b o, b < W.heap.size → w1.frozen? ⟨b, o, none⟩ = W.frozen? ⟨b, o, none⟩) :=
  ⟨fun b o h => hb.cell (p := ⟨b, o, none⟩) h, fun b o h => hb.frozen (p := ⟨b, o, none⟩) h⟩
theorem onlyB {w W W' : World} {b : Nat} (h : Below w.heap.size w W) (k : Only b W W') (hb : w.heap.size ≤ b) : Below w.heap.size w W' := h.trans (k.below hb h.size)
end Go.Proofs.Ytdoheningeafhaa
