/- Layer 13 (frame): the walk of the statement FrameCuts. -/
import Derived.Test.YtmnmonmbdgedbaaFrQ
namespace Go.Proofs.Ytmnmonmbdgedbaa
open Go.RowKit
set_option linter.unusedVariables false
set_option linter.unusedSimpArgs false

theorem wf_u16 {k : Int} (h : (Lit.int .u16 k).wf = true) : ∃ c : Nat, k = c ∧ c < 65536 := by
  have h2 : 0 ≤ k ∧ k < 65536 := by
    simp [Lit.wf, IntKind.bits, IntKind.signed, IntKind.min, IntKind.max] at h
    omega
  exact ⟨k.toNat, by omega, by omega⟩
theorem frParse_none (v : Int) (sp : Bool) (m : Rd) (h : m.left = 0) : frParse v sp m = (m, zeroF, false) := by
  unfold frParse
  rw [if_pos (.inr (.inr (.inl h)))]
end Go.Proofs.Ytmnmonmbdgedbaa
