/- The check sum of layer 16, walked: the table of four bits. -/
import Derived.Test.YtmnmonmbdgedbaaSum2
import Derived.Test.YtmnmonmbdgedbaaLow
namespace Go.Proofs.Ytmnmonmbdgedbaa
open Go.RowKit

def tabV (k j : Nat) : Value := .int .u32 (if j < k then (tab j).toNat else 0)
def tabL (k : Nat) : List Value := (List.range 16).map (tabV k)
theorem tabL_zero : tabL 0 = List.replicate 16 (.int .u32 0) := by kernel_rfl
theorem tabL_all : tabL 16 = [.int .u32 0, .int .u32 79764919, .int .u32 159529838, .int .u32 222504665, .int .u32 319059676, .int .u32 398814059, .int .u32 445009330, .int .u32 507990021, .int .u32 638119352, .int .u32 583659535, .int .u32 797628118, .int .u32 726387553, .int .u32 890018660, .int .u32 835552979, .int .u32 1015980042, .int .u32 944750013] := by kernel_rfl
theorem tabL_get (k j : Nat) (h : j < 16) : (tabL k).toArray[j]? = some (tabV k j) := by simp [tabL, h]
theorem tabL_step (k : Nat) : (tabL k).toArray.setIfInBounds k (.int .u32 (tab k).toNat) = (tabL (k + 1)).toArray := by
  apply Array.ext'
  rw [Array.toList_setIfInBounds]
  apply List.ext_getElem
  · simp [tabL]
  · intro j h1 h2
    rw [List.getElem_set]
    simp only [tabL, List.getElem_map, List.getElem_range]
    by_cases e : k = j
    · subst e
      simp [tabV]
    · rw [if_neg e]
      have : (j < k + 1) ↔ j < k := by omega
      simp [tabV, this]

def stN (s : BitVec 32) : Nat → BitVec 32
  | 0 => s
  | k + 1 => st (stN s k)
theorem shl28 (k : Nat) (h : k < 16) : (BitVec.ofNat 32 k <<< 28).toNat = k * 268435456 := by
  rw [BitVec.toNat_shiftLeft, BitVec.toNat_ofNat, Nat.shiftLeft_eq]; omega
theorem and_top (s : BitVec 32) : bits .and .u32 (s.toNat : Int) 2147483648 = if s.msb then 2147483648 else 0 := by
  have e : (BitVec.ofInt IntKind.u32.bits (s.toNat : Int) &&& BitVec.ofInt IntKind.u32.bits 2147483648).toNat = if s.msb then 2147483648 else 0 := by
    show (BitVec.ofInt 32 (s.toNat : Int) &&& 2147483648#32).toNat = _
    rw [BitVec.ofInt_natCast, BitVec.ofNat_toNat]
    have : (2147483648#32) = BitVec.twoPow 32 31 := by decide
    rw [this]
    simp [BitVec.and_twoPow, BitVec.msb_eq_getLsbD_last]
    split <;> rfl
  simp only [bits, e]
  cases s.msb <;> rfl

theorem cells16 {w : World} {b : Nat} {e : TypeId} {v0 v1 v2 v3 v4 v5 v6 v7 v8 v9 v10 v11 v12 v13 v14 v15 : Value} (h : w.heap[b]? = some (.cells #[v0, v1, v2, v3, v4, v5, v6, v7, v8, v9, v10, v11, v12, v13, v14, v15] e (0, 0))) :
    w.cell? ⟨b, 0, none⟩ = some v0 ∧ w.cell? ⟨b, 1, none⟩ = some v1 ∧ w.cell? ⟨b, 2, none⟩ = some v2 ∧ w.cell? ⟨b, 3, none⟩ = some v3 ∧ w.cell? ⟨b, 4, none⟩ = some v4 ∧ w.cell? ⟨b, 5, none⟩ = some v5 ∧ w.cell? ⟨b, 6, none⟩ = some v6 ∧ w.cell? ⟨b, 7, none⟩ = some v7 ∧ w.cell? ⟨b, 8, none⟩ = some v8 ∧ w.cell? ⟨b, 9, none⟩ = some v9 ∧ w.cell? ⟨b, 10, none⟩ = some v10 ∧ w.cell? ⟨b, 11, none⟩ = some v11 ∧ w.cell? ⟨b, 12, none⟩ = some v12 ∧ w.cell? ⟨b, 13, none⟩ = some v13 ∧ w.cell? ⟨b, 14, none⟩ = some v14 ∧ w.cell? ⟨b, 15, none⟩ = some v15 ∧
    w.frozen? ⟨b, 0, none⟩ = false ∧ w.frozen? ⟨b, 1, none⟩ = false ∧ w.frozen? ⟨b, 2, none⟩ = false ∧ w.frozen? ⟨b, 3, none⟩ = false ∧ w.frozen? ⟨b, 4, none⟩ = false ∧ w.frozen? ⟨b, 5, none⟩ = false ∧ w.frozen? ⟨b, 6, none⟩ = false ∧ w.frozen? ⟨b, 7, none⟩ = false ∧ w.frozen? ⟨b, 8, none⟩ = false ∧ w.frozen? ⟨b, 9, none⟩ = false ∧ w.frozen? ⟨b, 10, none⟩ = false ∧ w.frozen? ⟨b, 11, none⟩ = false ∧ w.frozen? ⟨b, 12, none⟩ = false ∧ w.frozen? ⟨b, 13, none⟩ = false ∧ w.frozen? ⟨b, 14, none⟩ = false ∧ w.frozen? ⟨b, 15, none⟩ = false :=
  ⟨cell_at h, cell_at h, cell_at h, cell_at h, cell_at h, cell_at h, cell_at h, cell_at h, cell_at h, cell_at h, cell_at h, cell_at h, cell_at h, cell_at h, cell_at h, cell_at h, free_at h, free_at h, free_at h, free_at h, free_at h, free_at h, free_at h, free_at h, free_at h, free_at h, free_at h, free_at h, free_at h, free_at h, free_at h, free_at h⟩
theorem store16 {w : World} {b : Nat} {C : Array Value} {e : TypeId} {v0 v1 v2 v3 v4 v5 v6 v7 v8 v9 v10 v11 v12 v13 v14 v15 : Value} (h : w.heap[b]? = some (.cells C e (0, 0))) (hC : C.size = 16) :
    ((((((((((((((((w.setCell ⟨b, 0, none⟩ v0).setCell ⟨b, 1, none⟩ v1).setCell ⟨b, 2, none⟩ v2).setCell ⟨b, 3, none⟩ v3).setCell ⟨b, 4, none⟩ v4).setCell ⟨b, 5, none⟩ v5).setCell ⟨b, 6, none⟩ v6).setCell ⟨b, 7, none⟩ v7).setCell ⟨b, 8, none⟩ v8).setCell ⟨b, 9, none⟩ v9).setCell ⟨b, 10, none⟩ v10).setCell ⟨b, 11, none⟩ v11).setCell ⟨b, 12, none⟩ v12).setCell ⟨b, 13, none⟩ v13).setCell ⟨b, 14, none⟩ v14).setCell ⟨b, 15, none⟩ v15).heap[b]? = some (.cells #[v0, v1, v2, v3, v4, v5, v6, v7, v8, v9, v10, v11, v12, v13, v14, v15] e (0, 0)) := stores_all [v0, v1, v2, v3, v4, v5, v6, v7, v8, v9, v10, v11, v12, v13, v14, v15] h hC

set_option maxHeartbeats 2000000 in
set_option maxRecDepth 100000 in
theorem halves_any (w : World) :
    Calls Try.prog 151 #[] w fun e w' => e = .returned (.agg (tabL 16).toArray) ∧ Below w.heap.size w w' := by
  go_enter Try.func151, Try.ntmps151
  go_wp2
  go_loopw [4] (fun i wr => ∃ (k : Nat), k ≤ 16 ∧ i = .int .i64 k ∧ Hid (wr.heap[w.heap.size]? = some (.cells (tabL 0).toArray 169 (0, 0)) ∧ wr.heap[w.heap.size + 1]? = some (.cells (tabL k).toArray 169 (0, 0)) ∧ Below w.heap.size w wr)) (fun i _ => 16 - (intOf i).toNat)
  case atStart =>
    refine ⟨0, by omega, rfl, Lib.hid ⟨?_, ?_, ((Below.refl _ _).alloc (Nat.le_refl _) _).alloc (by simp) _⟩⟩
    · rw [at_a1]; rfl
    · rw [at_a2]; rfl
  case round =>
    obtain ⟨k, hk, rfl, HH⟩ := hrel
    obtain ⟨hA, hB, hC⟩ := HH.out
    generalize hb : w.heap.size = b at *
    by_cases hlt : k < 16
    · have h0 : (k : Int) < 16 := by omega
      have hs := shl28 k hlt
      have cB : wr.cell? ⟨b + 1, k, none⟩ = some (.int .u32 0) := by rw [cell_at hB, tabL_get _ _ hlt]; simp [tabV]
      have fB : wr.frozen? ⟨b + 1, k, none⟩ = false := free_at hB
      clear hA hB hC
      generalize hw0 : wr = wr0
      go_wp2
      go_loopw [3, 10] (fun z j wr1 => ∃ (m : Nat), m ≤ 4 ∧ j = .int .i64 m ∧ z = .int .u32 (stN (BitVec.ofNat 32 k <<< 28) m).toNat ∧ wr1 = wr0) (fun _ j _ => (4 - intOf j).toNat)
      case atStart => exact ⟨0, by omega, rfl, by rw [stN, hs]; simp, rfl⟩
      case round =>
        obtain ⟨m, hm, rfl, rfl, rfl⟩ := hrel
        subst hw0
        have hst : stN (BitVec.ofNat 32 k <<< 28) (m + 1) = st (stN (BitVec.ofNat 32 k <<< 28) m) := rfl
        by_cases hml : m < 4
        · have h1 : (m : Int) < 4 := by omega
          generalize stN (BitVec.ofNat 32 k <<< 28) m = x at *
          have hx := x.isLt
          rcases hmb : x.msb with _ | _
          · have ha : bits .and .u32 (x.toNat : Int) 2147483648 = 0 := by rw [and_top, hmb]; rfl
            go_wp2
            refine ⟨⟨m + 1, by omega, by simp, ?_, trivial⟩, by simp [intOf]; omega⟩
            rw [hst, st, hmb, if_neg (by decide), shl1]
            simp
          · have ha : bits .and .u32 (x.toNat : Int) 2147483648 = 2147483648 := by rw [and_top, hmb]; rfl
            go_wp2
            refine ⟨⟨m + 1, by omega, by simp, ?_, trivial⟩, by simp [intOf]; omega⟩
            rw [hst, st, hmb, if_pos rfl, ← u32_xor, shl1]
            simp
        · have h1 : ¬ (m : Int) < 4 := by omega
          obtain rfl : m = 4 := by omega
          have hz : stN (BitVec.ofNat 32 k <<< 28) 4 = tab k := rfl
          rw [hz]
          clear hst hz
          have ht := tabL_step k
          generalize tab k = z at *
          have H1 := Lib.hid ht
          clear ht hs
          go_wp2
          refine ⟨⟨k + 1, by omega, by simp, Lib.hid ⟨?_, ?_, HH.out.2.2.setCell (by subst hb; simp) _⟩⟩, by simp [intOf]; omega⟩
          · rw [heap_set_other _ (by omega)]; exact HH.out.1
          · rw [setCell_at HH.out.2.1, H1.out]
    · have h0 : ¬ (k : Int) < 16 := by omega
      obtain rfl : k = 16 := by omega
      rw [tabL_all] at hB
      rw [tabL_zero] at hA
      have HA := Lib.hid hA
      have HC := Lib.hid hC
      obtain ⟨q0, q1, q2, q3, q4, q5, q6, q7, q8, q9, q10, q11, q12, q13, q14, q15, _⟩ := cells16 hB
      obtain ⟨p0, p1, p2, p3, p4, p5, p6, p7, p8, p9, p10, p11, p12, p13, p14, p15, f0, f1, f2, f3, f4, f5, f6, f7, f8, f9, f10, f11, f12, f13, f14, f15⟩ := cells16 hA
      clear hA hB hC HH
      go_wp2
      refine end_cell rfl rfl rfl (store16 HA.out rfl) Try.underlying169 rfl (by kernel_rfl) ⟨by rw [tabL_all], ?_⟩
      subst hb
      repeat' refine Below.setCell ?_ (by simp) _
      exact HC.out
end Go.Proofs.Ytmnmonmbdgedbaa
