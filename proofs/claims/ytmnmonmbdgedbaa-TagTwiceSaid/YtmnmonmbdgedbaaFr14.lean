/- Layer 13 (frame): the document's Print, walked: lemmas (printed by fr14.py). -/
import Derived.Test.YtmnmonmbdgedbaaFr13
namespace Go.Proofs.Ytmnmonmbdgedbaa
open Go.RowKit
set_option linter.unusedVariables false

theorem fr_add_run (x y : List UInt8) (h : x.length + y.length ≤ 8388608) : ∃ z, z = x ++ y ∧ ∀ w : World, (Op.stringOp .add ⟨x.toArray⟩ ⟨y.toArray⟩).run Try.prog w = .ok (.string ⟨z.toArray⟩) w :=
  ⟨_, rfl, fun w => run_string_add_lists w x y (by omega) (by omega)⟩
theorem keep3 {V W w : World} {b : Nat} {v0 v1 v2 : Value} (hb : Below V.heap.size V W) (k : Below W.heap.size W w) (hx : b < V.heap.size)
    (h : V.cell? ⟨b, 0, none⟩ = some v0 ∧ V.cell? ⟨b, 1, none⟩ = some v1 ∧ V.cell? ⟨b, 2, none⟩ = some v2) : w.cell? ⟨b, 0, none⟩ = some v0 ∧ w.cell? ⟨b, 1, none⟩ = some v1 ∧ w.cell? ⟨b, 2, none⟩ = some v2 := by
  have hb2 := nextB hb k
  have e : ∀ j, w.cell? ⟨b, j, none⟩ = V.cell? ⟨b, j, none⟩ := fun j => hb2.cell (p := ⟨b, j, none⟩) hx
  rw [e, e, e]
  exact h
def RPrint (s : List UInt8) (w : World) (e : Ending) (w' : World) : Prop := e = .returned (.string ⟨s.toArray⟩) ∧ Below w.heap.size w w'
end Go.Proofs.Ytmnmonmbdgedbaa
