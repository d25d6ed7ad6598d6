/- The check sum of layer 16, walked: Add, Of, Bytes; the statements' example. -/
import Derived.Test.YtmnmonmbdgedbaaSum3
import Derived.Test.YtmnmonmbdgedbaaLow
namespace Go.Proofs.Ytmnmonmbdgedbaa
open Go.RowKit

theorem shl4 (s : BitVec 32) : (s <<< 4).toNat = s.toNat * 16 % 4294967296 := by rw [BitVec.toNat_shiftLeft, Nat.shiftLeft_eq]
theorem shl24 (c : UInt8) : (BitVec.ofNat 32 c.toNat <<< 24).toNat = c.toNat * 16777216 := by
  have := UInt8.toNat_lt c
  rw [BitVec.toNat_shiftLeft, BitVec.toNat_ofNat, Nat.shiftLeft_eq]; omega
theorem add_take (s : BitVec 32) (l : List UInt8) (k : Nat) (h : k < l.length) : add s (l.take (k + 1)) = add1 (add s (l.take k)) l[k] := by
  rw [List.take_succ_eq_append_getElem h, add_snoc]
theorem adds_take (s : BitVec 32) (l : List (List UInt8)) (k : Nat) (h : k < l.length) : adds s (l.take (k + 1)) = add (adds s (l.take k)) l[k] := by
  rw [List.take_succ_eq_append_getElem h, adds_snoc]
theorem xor4 (y : BitVec 32) : bits .xor .u32 ((y.toNat : Int) * 16 % 4294967296) ((tab (y.toNat / 268435456)).toNat : Int) = ((st4 y).toNat : Int) := by
  have h := u32_xor (y <<< 4) (tab (y.toNat / 268435456))
  rw [shl4] at h
  rw [st4_split, ← h]
  simp
theorem tab_cell {w : World} {b : Nat} {T : TypeId} (h : w.heap[b]? = some (.cells (tabL 16).toArray T (0, 0))) (s : BitVec 32) :
    w.cell? ⟨b, s.toNat / 268435456, none⟩ = some (.int .u32 (tab (s.toNat / 268435456)).toNat) := by
  have hs := s.isLt
  have : s.toNat / 268435456 < 16 := by omega
  rw [cell_at h, tabL_get _ _ this]
  simp [tabV, this]

theorem halves_lit (w : World) :
    Calls Try.prog 151 #[] w fun e w' => e = .returned (.agg #[.int .u32 0, .int .u32 79764919, .int .u32 159529838, .int .u32 222504665, .int .u32 319059676, .int .u32 398814059, .int .u32 445009330, .int .u32 507990021, .int .u32 638119352, .int .u32 583659535, .int .u32 797628118, .int .u32 726387553, .int .u32 890018660, .int .u32 835552979, .int .u32 1015980042, .int .u32 944750013]) ∧ Below w.heap.size w w' := by
  have h := halves_any w
  rw [tabL_all] at h
  exact h

set_option maxHeartbeats 2000000 in
set_option maxRecDepth 100000 in
theorem sumAdd_in (s : BitVec 32) (b off n cap : Nat) (ps : List (List UInt8)) (w : World) (hb : b < w.heap.size) (hn : ps.length = n) (hn9 : n ≤ 1000000000) (hp : Hid (∀ p ∈ ps, p.length ≤ 1000000000))
    (hc : Hid (∀ i (h : i < ps.length), w.cell? ⟨b, off + i, none⟩ = some (.string ⟨ps[i].toArray⟩))) :
    Calls Try.prog 150 #[.int .u32 s.toNat, .slice (some ⟨b, off, none⟩) n cap] w fun e w' => e = .returned (.int .u32 (adds s ps).toNat) ∧ Below w.heap.size w w' := by
  go_enter Try.func150, Try.ntmps150
  go_wp2_with (go_at_call 151; refine (halves_lit _).mono ?_; rintro e w1 ⟨rfl, hb1⟩; have HB1 := Lib.hid hb1; have hs1 := hb1.size; clear hb1)
  have hT : (w1.alloc (.cells #[.int .u32 0, .int .u32 79764919, .int .u32 159529838, .int .u32 222504665, .int .u32 319059676, .int .u32 398814059, .int .u32 445009330, .int .u32 507990021, .int .u32 638119352, .int .u32 583659535, .int .u32 797628118, .int .u32 726387553, .int .u32 890018660, .int .u32 835552979, .int .u32 1015980042, .int .u32 944750013] 169)).heap[w1.heap.size]? = some (.cells (tabL 16).toArray 169 (0, 0)) := by rw [tabL_all]; exact at_a0 _ _ _
  have hB2 : Below w.heap.size w (w1.alloc (.cells #[.int .u32 0, .int .u32 79764919, .int .u32 159529838, .int .u32 222504665, .int .u32 319059676, .int .u32 398814059, .int .u32 445009330, .int .u32 507990021, .int .u32 638119352, .int .u32 583659535, .int .u32 797628118, .int .u32 726387553, .int .u32 890018660, .int .u32 835552979, .int .u32 1015980042, .int .u32 944750013] 169)) := HB1.out.alloc HB1.out.size _
  generalize w1.alloc (.cells #[.int .u32 0, .int .u32 79764919, .int .u32 159529838, .int .u32 222504665, .int .u32 319059676, .int .u32 398814059, .int .u32 445009330, .int .u32 507990021, .int .u32 638119352, .int .u32 583659535, .int .u32 797628118, .int .u32 726387553, .int .u32 890018660, .int .u32 835552979, .int .u32 1015980042, .int .u32 944750013] 169) = W at *
  generalize w1.heap.size = tb at *
  have HT := Lib.hid hT
  have HB2 := Lib.hid hB2
  clear hT hB2 HB1
  go_loopw [0, 12] (fun z i wr => ∃ (k : Nat), k ≤ n ∧ i = .int .i64 k ∧ z = .int .u32 (adds s (ps.take k)).toNat ∧ wr = W) (fun _ i _ => n - (intOf i).toNat)
  case atStart => exact ⟨0, by omega, rfl, by rw [List.take_zero]; rfl, rfl⟩
  case round =>
    obtain ⟨k, hk, rfl, rfl, rfl⟩ := hrel
    by_cases hlt : k < n
    · have h0 : (k : Int) < n := by omega
      have hkp : k < ps.length := by omega
      have c0 := hc.out k hkp
      rw [← HB2.out.cell (by exact hb)] at c0
      have hpl := hp.out ps[k] (List.getElem_mem hkp)
      have hpt := adds_take s ps k hkp
      have HPT := Lib.hid hpt
      clear hpt
      generalize ps[k] = l at *
      generalize adds s (ps.take k) = x at *
      go_wp2
      generalize hw0 : wr = wr0
      go_loopw [0, 18] (fun z i wr => ∃ (j : Nat), j ≤ l.length ∧ i = .int .i64 j ∧ z = .int .u32 (add x (l.take j)).toNat ∧ wr = wr0) (fun _ i _ => l.length - (intOf i).toNat)
      case atStart => exact ⟨0, by omega, rfl, by rw [List.take_zero]; rfl, rfl⟩
      case round =>
        obtain ⟨j, hj, rfl, rfl, rfl⟩ := hrel
        subst hw0
        by_cases hjl : j < l.length
        · have h1 : (j : Int) < l.length := by omega
          have hat := add_take x l j hjl
          have HAT := Lib.hid hat
          clear hat
          generalize add x (l.take j) = y at *
          have e1 : bits .xor .u32 (y.toNat : Int) ((l[j].toNat : Int) * 16777216) = ((y ^^^ (BitVec.ofNat 32 l[j].toNat <<< 24)).toNat : Int) := by rw [← u32_xor, shl24]; simp
          have hcb := byte_le l[j]
          generalize hy1 : y ^^^ (BitVec.ofNat 32 l[j].toNat <<< 24) = y1 at *
          have hy := y1.isLt
          have t1 := tab_cell HT.out y1
          have e2 := xor4 y1
          have e9 : st8 y1 = st4 (st4 y1) := rfl
          generalize st4 y1 = y2 at *
          have hy2 := y2.isLt
          have t2 := tab_cell HT.out y2
          have e3 := xor4 y2
          rw [← e9] at e3
          clear e9
          go_wp2
          refine ⟨⟨j + 1, by omega, by simp, ?_, trivial⟩, by simp [intOf]; omega⟩
          rw [HAT.out, add1, hy1]
        · have h1 : ¬ (j : Int) < l.length := by omega
          go_wp2
          refine ⟨⟨k + 1, by omega, by simp, ?_, trivial⟩, by simp [intOf]; omega⟩
          rw [HPT.out, List.take_of_length_le (by omega)]
    · have h0 : ¬ (k : Int) < n := by omega
      go_wp2
      go_ret
      rw [List.take_of_length_le (by omega)]
      exact ⟨rfl, HB2.out⟩

set_option maxHeartbeats 2000000 in
set_option maxRecDepth 100000 in
theorem sumAdd_none (s : BitVec 32) (a : Option Addr) (cap : Nat) (w : World) :
    Calls Try.prog 150 #[.int .u32 s.toNat, .slice a 0 cap] w fun e w' => e = .returned (.int .u32 s.toNat) ∧ Below w.heap.size w w' := by
  go_enter Try.func150, Try.ntmps150
  go_wp2_with (go_at_call 151; refine (halves_lit _).mono ?_; rintro e w1 ⟨rfl, hb1⟩)
  refine wp_loop_rounds 1 ?_
  rw [rounds_succ]
  go_wp2
  go_ret
  exact ⟨rfl, hb1.alloc hb1.size _⟩

theorem sumAdd_any (s : BitVec 32) (a : Option Addr) (n cap : Nat) (ps : List (List UInt8)) (w : World) (h : StrsAt w a n ps) (hn9 : n ≤ 1000000000) (hp : ∀ p ∈ ps, p.length ≤ 1000000000) :
    Calls Try.prog 150 #[.int .u32 s.toNat, .slice a n cap] w fun e w' => e = .returned (.int .u32 (adds s ps).toNat) ∧ Below w.heap.size w w' := by
  obtain ⟨hl, h⟩ := h
  rcases h with rfl | ⟨b, off, rfl, hb, hc⟩
  · obtain rfl : ps = [] := List.eq_nil_of_length_eq_zero hl
    exact sumAdd_none s a cap w
  · exact sumAdd_in s b off n cap ps w hb hl hn9 (Lib.hid hp) (Lib.hid hc)

set_option maxRecDepth 100000 in
theorem sumOf_any (a : Option Addr) (n cap : Nat) (ps : List (List UInt8)) (w : World) (h : StrsAt w a n ps) (hn9 : n ≤ 1000000000) (hp : ∀ p ∈ ps, p.length ≤ 1000000000) :
    Calls Try.prog 146 #[.slice a n cap] w fun e w' => e = .returned (.int .u32 (adds 0 ps).toNat) ∧ Below w.heap.size w w' := by
  have H := Lib.hid (sumAdd_any 0 a n cap ps w h hn9 hp)
  clear h
  go_enter Try.func146, Try.ntmps146
  go_wp2_with (go_at_call 150; refine H.out.mono ?_; rintro e w1 ⟨rfl, hb1⟩)
  go_ret
  exact ⟨rfl, hb1⟩

set_option maxRecDepth 100000 in
theorem sumBytes_any (s : BitVec 32) (w : World) :
    Calls Try.prog 144 #[.int .u32 s.toNat] w fun e w' => e = .returned (.string ⟨(smallL s.toNat 4).toArray⟩) ∧ Below w.heap.size w w' := by
  have hs := s.isLt
  go_enter Try.func144, Try.ntmps144
  go_wp2_with (go_at_call 149; refine (small_any s.toNat 4 4 _ (Lib.hid (by omega)) (Lib.hid (by decide))).mono ?_; rintro e w1 ⟨rfl, hb1⟩)
  go_ret
  exact ⟨rfl, hb1⟩
set_option maxHeartbeats 1000000 in
set_option maxRecDepth 100000 in
theorem awake16 (w : World) : Calls Try.prog 136 #[] w fun e w' => e = .returned (.bool true) ∧ Below w.heap.size w w' := by
  have c0 := fun w => sumOf_any none 0 0 [] w ⟨rfl, .inl rfl⟩ (by decide) (by simp)
  have c1 := fun w => sumOf_any (some ⟨w.heap.size, 0, none⟩) 1 1 [[1]] (w.alloc (.cells #[.string ⟨#[1]⟩] 9)) (StrsAt.one w [1] _) (by decide) (by simp)
  have e0 : ((adds 0 []).toNat : Int) = 0 := by decide +kernel
  have e1 : ((adds 0 [[1]]).toNat : Int) = 79764919 := by decide +kernel
  rw [e0] at c0
  rw [e1] at c1
  have C0 := Lib.hid c0
  have C1 := Lib.hid c1
  clear c0 c1 e0 e1
  go_enter Try.func136, Try.ntmps136
  go_wp2_with (first | (go_at_call 90; refine (awake01 _).mono ?_; rintro e w1 ⟨rfl, hb1⟩) | (go_at_call 146; first | (refine (C0.out _).mono ?_; rintro e w2 ⟨rfl, hb2⟩) | (refine (C1.out _).mono ?_; rintro e w3 ⟨rfl, hb3⟩)))
  go_ret
  exact ⟨rfl, nextB (nextB hb1 hb2) (below_a1 hb3)⟩
end Go.Proofs.Ytmnmonmbdgedbaa
