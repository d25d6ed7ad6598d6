/- Layer 18 (packet): count and ends, walked. -/
import Derived.Test.YtmnmonmbdgedbaaPage1
namespace Go.Proofs.Ytmnmonmbdgedbaa
open Go.RowKit
set_option linter.unusedVariables false
set_option linter.unusedSimpArgs false

set_option maxHeartbeats 1000000 in
set_option maxRecDepth 100000 in
theorem count_any (l : List UInt8) (w : World) (hl : l.length ≤ 1000000000) : Calls Try.prog 84 #[.string ⟨l.toArray⟩] w fun e w' => e = .returned (.int .i64 (lacesL l)) ∧ w = w' := by
  go_enter Try.func84, Try.ntmps84
  go_wp2
  go_loopw [3, 7] (fun z i wr => ∃ (k : Nat), k ≤ l.length ∧ i = .int .i64 k ∧ z = .int .i64 (lacesL (l.take k)) ∧ lacesL (l.take k) ≤ 255 * k ∧ wr = w) (fun _ i _ => l.length - (intOf i).toNat)
  case atStart => exact ⟨0, by omega, rfl, rfl, by simp [lacesL], rfl⟩
  case round =>
    obtain ⟨k, hk, rfl, rfl, hb, rfl⟩ := hrel
    by_cases hlt : k < l.length
    · have h0 : (k : Int) < l.length := by omega
      have ht := laces_take l k hlt
      have HT := Lib.hid ht
      have hc := byte_le l[k]
      clear ht
      generalize lacesL (l.take k) = x at *
      go_wp2
      refine ⟨⟨k + 1, by omega, by simp, by rw [HT.out]; simp, by rw [HT.out]; omega, by first | rfl | trivial⟩, by simp [intOf]; omega⟩
    · have h0 : ¬ (k : Int) < l.length := by omega
      go_wp2
      go_ret
      rw [List.take_of_length_le (by omega)]
      exact ⟨rfl, rfl⟩
/-- does a packet end by some laces? -/
def endsB (l : List UInt8) : Bool := l.any (fun c => c != 255)
theorem endsB_at {l : List UInt8} {k : Nat} (h : k < l.length) (h2 : l[k] ≠ 255) : endsB l = true := by
  unfold endsB
  rw [List.any_eq_true]
  exact ⟨l[k], List.getElem_mem h, by simpa using h2⟩
theorem endsB_none {l : List UInt8} (h : ∀ x ∈ l, x = 255) : endsB l = false := by
  unfold endsB
  rw [List.any_eq_false]
  intro x hx
  simp [h x hx]
set_option maxHeartbeats 1000000 in
set_option maxRecDepth 100000 in
theorem ends_any (l : List UInt8) (w : World) (hl : l.length ≤ 1000000000) : Calls Try.prog 85 #[.string ⟨l.toArray⟩] w fun e w' => e = .returned (.bool (endsB l)) ∧ w = w' := by
  go_enter Try.func85, Try.ntmps85
  go_wp2
  go_loopw [6] (fun i wr => ∃ (k : Nat), k ≤ l.length ∧ i = .int .i64 k ∧ Hid (∀ x ∈ l.take k, x = 255) ∧ wr = w) (fun i _ => l.length - (intOf i).toNat)
  case atStart => exact ⟨0, by omega, rfl, Lib.hid (by simp), rfl⟩
  case round =>
    obtain ⟨k, hk, rfl, HG, rfl⟩ := hrel
    by_cases hlt : k < l.length
    · have h0 : (k : Int) < l.length := by omega
      by_cases hz : l[k] = 255
      · have HG2 : Hid (∀ x ∈ l.take (k + 1), x = 255) := Lib.hid (by
          intro x hx
          rw [List.take_succ_eq_append_getElem hlt, List.mem_append] at hx
          rcases hx with hx | hx
          · exact HG.out x hx
          · rw [List.mem_singleton] at hx; rw [hx, hz])
        have t1 : ((l[k].toNat : Int) != 255) = false := by rw [hz]; rfl
        clear hz
        go_wp2
        refine ⟨⟨k + 1, by omega, by simp, HG2, by first | rfl | trivial⟩, by simp [intOf]; omega⟩
      · have HE := Lib.hid (endsB_at hlt hz)
        have t1 : ((l[k].toNat : Int) != 255) = true := by
          simp only [bne_iff_ne, ne_eq]
          intro e
          exact hz (by rw [u8_eq]; show l[k].toNat = 255; omega)
        clear hz
        go_wp2
        go_ret
        exact ⟨ret_bool HE.out.symm, rfl⟩
    · have h0 : ¬ (k : Int) < l.length := by omega
      have HE : Hid (endsB l = false) := Lib.hid (endsB_none (by have h := HG.out; rw [List.take_of_length_le (by omega)] at h; exact h))
      go_wp2
      go_ret
      exact ⟨ret_bool HE.out.symm, rfl⟩
end Go.Proofs.Ytmnmonmbdgedbaa
