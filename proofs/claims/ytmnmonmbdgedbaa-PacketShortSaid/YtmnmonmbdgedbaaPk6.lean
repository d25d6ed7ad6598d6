/- Layer 18 (packet): the law's Same, walked, where it says yes. -/
import Derived.Test.YtmnmonmbdgedbaaPk4
import Derived.Deep.DeepCutAuto
namespace Go.Proofs.Ytmnmonmbdgedbaa
open Go.RowKit
set_option linter.unusedVariables false
set_option linter.unusedSimpArgs false

theorem pk_str_cell {w : World} {a : Option Addr} {n : Nat} {ps : List (List UInt8)} (h : StrsAt w a n ps) (j : Nat) (hj : j < ps.length) : ∃ b off, a = some ⟨b, off, none⟩ ∧ w.cell? ⟨b, off + j, none⟩ = some (.string ⟨ps[j].toArray⟩) := by
  have hn := h.1
  rcases h.2 with h0 | ⟨b, off, ha, hb, hc⟩
  · omega
  · exact ⟨b, off, ha, hc j hj⟩
set_option maxHeartbeats 2000000 in
set_option maxRecDepth 100000 in
theorem psame_yes (a1 a2 : Option Addr) (n c1 c2 : Nat) (L : List (List UInt8)) (w : World) (h1 : Hid (StrsAt w a1 n L)) (h2 : Hid (StrsAt w a2 n L)) (hn : n ≤ 1000000) :
    Calls Try.prog 39 #[.slice a1 n c1, .slice a2 n c2] w fun e w' => e = .returned (.bool true) ∧ Below w.heap.size w w' := by
  have HL : Hid (L.length = n) := Lib.hid h1.out.1
  have hni : (n : Int) ≤ 1000000 := by omega
  go_enter Try.func39, Try.ntmps39
  go_wp2
  go_loopw [13] (fun i wr => ∃ (j : Nat), j ≤ n ∧ i = .int .i64 j ∧ Hid (Below w.heap.size w wr)) (fun i _ => n - (intOf i).toNat)
  case atStart => exact ⟨0, by omega, rfl, Lib.hid (Below.refl _ _)⟩
  case round =>
    obtain ⟨j, hj, rfl, K⟩ := hrel
    by_cases hlt : j < n
    · have g0 : (j : Int) < n := by omega
      have hjl : j < L.length := by rw [HL.out]; exact hlt
      obtain ⟨b, off, rfl, hb⟩ := pk_str_cell (h1.out.below K.out) j hjl
      obtain ⟨d, eff, rfl, hd⟩ := pk_str_cell (h2.out.below K.out) j hjl
      generalize L[j] = s at *
      go_upto_region 6 with (fail)
      go_region
      all_goals (
        go_wp2
        exact ⟨⟨j + 1, by omega, by simp, Lib.hid K.out.drew⟩, by simp [intOf]; omega⟩)
    · have g0 : ¬ (j : Int) < n := by omega
      go_wp2
      go_ret
      exact ⟨rfl, K.out⟩
end Go.Proofs.Ytmnmonmbdgedbaa
