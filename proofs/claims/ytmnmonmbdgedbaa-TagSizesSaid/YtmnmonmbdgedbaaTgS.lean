/- Layer 15 (tag): the walk of the statement TagSizes. -/
import Derived.Test.YtmnmonmbdgedbaaTgA
import Derived.Test.YtmnmonmbdgedbaaFrS
namespace Go.Proofs.Ytmnmonmbdgedbaa
open Go.RowKit
set_option linter.unusedVariables false
set_option linter.unusedSimpArgs false

/-- a region that draws its order, whose operations read no memory, with calls that keep a class of worlds -/
theorem wp_region_class {P : Program} {id : Nat} {Q : Exit → Act → World → Prop} {a : Act} {w : World} {l : List Oper} (C : World → Prop) (hm : P.follows .mixedOrders = true) (hB : Region.lexB .any l.toArray = true) (hC : C w.drew)
    (h : wpQuiet P l.toArray C (fun a' => ∀ w', C w' → Q .normal a' w') l a) : (Code.region id l.toArray true).wp P Q a w :=
  wp_region_quiet (C := C) hm hB hC (by simpa using h)
set_option maxHeartbeats 2000000 in
set_option maxRecDepth 100000 in
theorem tsizes_over (v : Int) (rv fl : UInt8) (a : Option Addr) (n cap : Nat) {HS : World → Prop} (w : World) (hs : Hid (∀ w', Below w.heap.size w w' → HS w'))
    (LG : Hid (∀ w, HS w → Calls Try.prog 14 #[.agg #[.int .i64 v, .int .u8 rv.toNat, .int .u8 fl.toNat, .slice a n cap]] w (SaysB false w))) :
    Calls Try.prog 4 #[.agg #[.int .i64 v, .int .u8 rv.toNat, .int .u8 fl.toNat, .slice a n cap]] w fun e w' => e = .returned (.bool true) ∧ Below w.heap.size w w' := by
  have HS0 := Lib.hid (hs.out _ ((Below.refl w.heap.size w).alloc (Nat.le_refl _) (.cells #[.int .i64 v, .int .u8 rv.toNat, .int .u8 fl.toNat, .slice a n cap] 26)))
  unfold SaysB at LG
  go_enter Try.func4, Try.ntmps4
  go_wp2_with (first | (go_at_call 14; (with_reducible refine (LG.out _ HS0.out).mono ?_); rintro e w1 ⟨rfl, hb1⟩; have K := Lib.hid (below_a1 hb1); clear hb1) | (go_at_call 21; (with_reducible refine (awake15' _).mono ?_); rintro e w2 ⟨rfl, hb2⟩; replace K := Lib.hid (nextB K.out (hb2)); clear hb2))
  go_ret
  exact ⟨rfl, K.out⟩
set_option maxHeartbeats 2000000 in
set_option maxRecDepth 100000 in
theorem tsizes_bad (v : Int) (rv fl : UInt8) (a : Option Addr) (n cap : Nat) (s : List UInt8) (c q : Int) {HS : World → Prop} (w : World) (hc : c ≠ 0) (hs : Hid (∀ w', Below w.heap.size w w' → HS w'))
    (LG : Hid (∀ w, HS w → Calls Try.prog 14 #[.agg #[.int .i64 v, .int .u8 rv.toNat, .int .u8 fl.toNat, .slice a n cap]] w (SaysB true w)))
    (PR : Hid (∀ w, HS w → Calls Try.prog 15 #[.agg #[.int .i64 v, .int .u8 rv.toNat, .int .u8 fl.toNat, .slice a n cap]] w (TPrints s (c, q) w))) :
    Calls Try.prog 4 #[.agg #[.int .i64 v, .int .u8 rv.toNat, .int .u8 fl.toNat, .slice a n cap]] w fun e w' => e = .returned (.bool true) ∧ Below w.heap.size w w' := by
  have BD := Lib.hid (fun w => bad_any c q w)
  rw [show (c != 0) = true by simpa using hc] at BD
  have HS0 := Lib.hid (hs.out _ ((Below.refl w.heap.size w).alloc (Nat.le_refl _) (.cells #[.int .i64 v, .int .u8 rv.toNat, .int .u8 fl.toNat, .slice a n cap] 26)))
  unfold SaysB TPrints at *
  clear hc
  go_enter Try.func4, Try.ntmps4
  go_wp2_with (first | (go_at_call 14; (with_reducible refine (LG.out _ HS0.out).mono ?_); rintro e w1 ⟨rfl, hb1⟩; have X := Lib.hid (block_below (at_a0 w _ _) hb1); have K := Lib.hid (below_a1 hb1); obtain ⟨x0, x1, x2, x3⟩ := cells4 (X.out); clear hb1) | (go_at_call 15; (with_reducible refine (PR.out _ (hs.out _ K.out)).mono ?_); rintro e w2 ⟨rfl, hb2⟩; replace K := Lib.hid (nextB K.out (hb2)); clear hb2) | (go_at_call 16; (with_reducible refine (BD.out _).mono ?_); rintro e w3 ⟨rfl, hb3⟩; replace K := Lib.hid (nextB K.out (below_a1 hb3)); clear hb3) | (go_at_call 21; (with_reducible refine (awake15' _).mono ?_); rintro e w4 ⟨rfl, hb4⟩; replace K := Lib.hid (nextB K.out (hb4)); clear hb4))
  go_ret
  exact ⟨rfl, K.out⟩
set_option maxHeartbeats 4000000 in
set_option maxRecDepth 100000 in
theorem tsizes_in (v : Int) (rv fl : UInt8) (a : Option Addr) (n cap : Nat) (s : List UInt8) (N : Nat) (sp : Bool) {HS : World → Prop} (w : World) (hs : Hid (∀ w', Below w.heap.size w w' → HS w'))
    (hs0 : 10 ≤ s.length) (hs1 : s.length ≤ 100000) (hl6 : s[6].toNat < 128) (hl7 : s[7].toNat < 128) (hl8 : s[8].toNat < 128) (hl9 : s[9].toNat < 128)
    (HN : Hid (((s[6].toNat * 128 + s[7].toNat) * 128 + s[8].toNat) * 128 + s[9].toNat = N)) (hN : s.length = 10 + N)
    (HF : Hid (sp = true → v < 4 → ∀ j, 10 ≤ j → (h : j < s.length) → s[j].toNat = 255 → ∃ h2 : j + 1 < s.length, s[j + 1].toNat < 224))
    (LG : Hid (∀ w, HS w → Calls Try.prog 14 #[.agg #[.int .i64 v, .int .u8 rv.toNat, .int .u8 fl.toNat, .slice a n cap]] w (SaysB true w)))
    (PR : Hid (∀ w, HS w → Calls Try.prog 15 #[.agg #[.int .i64 v, .int .u8 rv.toNat, .int .u8 fl.toNat, .slice a n cap]] w (TPrints s (0, 0) w)))
    (FT : Hid (∀ w, Calls Try.prog 22 #[.agg #[.int .i64 v, .int .u8 rv.toNat, .int .u8 fl.toNat]] w fun e w' => e = .returned (.bool false) ∧ Below w.heap.size w w'))
    (SP : Hid (∀ w, Calls Try.prog 23 #[.agg #[.int .i64 v, .int .u8 rv.toNat, .int .u8 fl.toNat]] w fun e w' => e = .returned (.bool sp) ∧ Below w.heap.size w w')) :
    Calls Try.prog 4 #[.agg #[.int .i64 v, .int .u8 rv.toNat, .int .u8 fl.toNat, .slice a n cap]] w fun e w' => e = .returned (.bool true) ∧ Below w.heap.size w w' := by
  have BD := Lib.hid (fun w => bad_any 0 0 w)
  rw [show ((0 : Int) != 0) = false by rfl] at BD
  have HS0 := Lib.hid (hs.out _ ((Below.refl w.heap.size w).alloc (Nat.le_refl _) (.cells #[.int .i64 v, .int .u8 rv.toNat, .int .u8 fl.toNat, .slice a n cap] 26)))
  have HN2 := Lib.hid hN
  clear hN
  have c6 := byte_le s[6]
  have c7 := byte_le s[7]
  have c8 := byte_le s[8]
  have c9 := byte_le s[9]
  have g0 : (10 : Int) ≤ s.length := by omega
  have i6 : (6 : Int) < s.length := by omega
  have i7 : (7 : Int) < s.length := by omega
  have i8 : (8 : Int) < s.length := by omega
  have i9 : (9 : Int) < s.length := by omega
  unfold SaysB TPrints at *
  go_enter Try.func4, Try.ntmps4
  go_upto_region 8 with (first | (go_at_call 14; (with_reducible refine (LG.out _ HS0.out).mono ?_); rintro e w1 ⟨rfl, hb1⟩; have X := Lib.hid (block_below (at_a0 w _ _) hb1); have K := Lib.hid (below_a1 hb1); obtain ⟨x0, x1, x2, x3⟩ := cells4 (X.out); clear hb1) | (go_at_call 15; (with_reducible refine (PR.out _ (hs.out _ K.out)).mono ?_); rintro e w2 ⟨rfl, hb2⟩; replace X := Lib.hid (block_below X.out (hb2)); replace K := Lib.hid (nextB K.out (hb2)); clear hb2) | (go_at_call 16; (with_reducible refine (BD.out _).mono ?_); rintro e w3 ⟨rfl, hb3⟩; replace X := Lib.hid (block_below X.out (below_a1 hb3)); replace K := Lib.hid (nextB K.out (below_a1 hb3)); clear hb3))
  clear x0 x1 x2 x3
  go_quiet (fail)
  go_upto_region 9 with (fail)
  rw [or7 _ _ _ _ hl6 hl7 hl8 hl9, HN.out]
  obtain ⟨y1, e1, l1⟩ : ∃ y1 : UInt8, bits .or .u8 (s[6].toNat : Int) (s[7].toNat : Int) = (y1.toNat : Int) ∧ y1.toNat < 128 := ⟨_, orB _ _, or_low _ _ hl6 hl7⟩
  obtain ⟨y2, e2, l2⟩ : ∃ y2 : UInt8, bits .or .u8 (y1.toNat : Int) (s[8].toNat : Int) = (y2.toNat : Int) ∧ y2.toNat < 128 := ⟨_, orB _ _, or_low _ _ l1 hl8⟩
  obtain ⟨y3, e3, l3⟩ : ∃ y3 : UInt8, bits .or .u8 (y2.toNat : Int) (s[9].toNat : Int) = (y3.toNat : Int) ∧ y3.toNat < 128 := ⟨_, orB _ _, or_low _ _ l2 hl9⟩
  have l3i : (y3.toNat : Int) < 128 := by omega
  have hN := HN2.out
  have tN : ((s.length : Int) == 10 + (N : Int)) = true := by simp; omega
  have hN5 : (N : Int) ≤ 100000 := by omega
  have j6 : (6 : Int) < 10 + (N : Int) := by omega
  have j7 : (7 : Int) < 10 + (N : Int) := by omega
  have j8 : (8 : Int) < 10 + (N : Int) := by omega
  have j9 : (9 : Int) < 10 + (N : Int) := by omega
  clear HN HN2 hN hl6 hl7 hl8 hl9
  replace X : Hid ((World.drewN w3 nq).heap[w.heap.size]? = some (.cells #[.int .i64 v, .int .u8 rv.toNat, .int .u8 fl.toNat, .slice a n cap] 26 (0, 0))) := Lib.hid X.out
  replace K := Lib.hid (fr_belowN K.out nq)
  generalize World.drewN w3 nq = v1 at *
  obtain ⟨a0, a1, a2, a3⟩ := cells4 (X.out)
  by_cases hc : sp = true ∧ v < 4
  · obtain ⟨rfl, hv4⟩ := hc
    have HF2 := Lib.hid (HF.out rfl hv4)
    go_wp2_with (first | (go_at_call 22; (with_reducible refine (FT.out _).mono ?_); rintro e w4 ⟨rfl, hb4⟩; replace X := Lib.hid (block_below X.out (hb4)); replace K := Lib.hid (nextB K.out (hb4)); clear hb4; obtain ⟨b0, b1, b2, b3⟩ := cells4 (X.out)) | (go_at_call 23; (with_reducible refine (SP.out _).mono ?_); rintro e w5 ⟨rfl, hb5⟩; replace X := Lib.hid (block_below X.out (hb5)); replace K := Lib.hid (nextB K.out (hb5)); clear hb5; obtain ⟨c0, c1, c2, c3⟩ := cells4 (X.out)))
    clear b0 b1 b2 b3 c0 c1 c2 c3 a0 a1 a2 a3
    go_loop [7] (fun i => ∃ (j : Nat), 10 ≤ j ∧ j ≤ s.length ∧ i = .int .i64 j) (fun i => s.length - (intOf i).toNat)
    case atStart => exact ⟨10, by omega, by omega, rfl⟩
    case round =>
      obtain ⟨j, hj10, hjl, rfl⟩ := hrel
      by_cases hlt : j < s.length
      · have q0 : (j : Int) < (s.length : Int) := by omega
        have b1 := byte_le s[j]
        by_cases h255 : s[j].toNat = 255
        · obtain ⟨h2, h224⟩ := HF2.out j hj10 hlt h255
          have q3 : (j : Int) + 1 < (s.length : Int) := by omega
          have t1 : ((s[j].toNat : Int) == 255) = true := by simp; omega
          have t2 : ((j : Int) == (s.length : Int) - 1) = false := by simp; omega
          have t3 : ¬ (224 : Int) ≤ (s[j + 1].toNat : Int) := by omega
          have b2 := byte_le s[j + 1]
          clear h255 h224
          go_wp2
          go_round
          case rel => exact ⟨j + 1, by omega, by omega, by go_num⟩
          case measure => simp [intOf]; omega
        · have t1 : ((s[j].toNat : Int) == 255) = false := by simp; omega
          clear h255
          go_wp2
          go_round
          case rel => exact ⟨j + 1, by omega, by omega, by go_num⟩
          case measure => simp [intOf]; omega
      · have q0 : ¬ (j : Int) < (s.length : Int) := by omega
        go_upto_region 20 with (fail)
        refine wp_region_class (fun w' => Below w.heap.size w w') (by kernel_rfl) (by kernel_rfl) (show Below w.heap.size w w5.drew from K.out.drew) ?_
        have hcl : ∀ p : Prop, (∀ w', Below w.heap.size w w' → p) ↔ p := fun p => ⟨fun h => h w (Below.refl _ _), fun h _ _ => h⟩
        go_big_quiet_want
        go_big_quiet_op
        apply Exists.intro
        refine ⟨fun wq hwq => ?_, ?_⟩
        · refine (awake15' wq).mono ?_
          rintro e w' ⟨h1, h2⟩
          exact ⟨h1, nextB hwq h2⟩
        go_big_quiet_on
        repeat (first | go_big_quiet_skip | (go_big_quiet_want; go_big_quiet_op; go_big_quiet_on))
        refine wpQuiet_nil ?_
        intro wq hwq
        go_wp2
        go_ret
        exact ⟨rfl, hwq⟩
  · rcases sp with _ | _
    · go_upto_region 20 with (first | (go_at_call 22; (with_reducible refine (FT.out _).mono ?_); rintro e w4 ⟨rfl, hb4⟩; replace X := Lib.hid (block_below X.out (hb4)); replace K := Lib.hid (nextB K.out (hb4)); clear hb4; obtain ⟨b0, b1, b2, b3⟩ := cells4 (X.out)) | (go_at_call 23; (with_reducible refine (SP.out _).mono ?_); rintro e w5 ⟨rfl, hb5⟩; replace X := Lib.hid (block_below X.out (hb5)); replace K := Lib.hid (nextB K.out (hb5)); clear hb5; obtain ⟨c0, c1, c2, c3⟩ := cells4 (X.out)))
      refine wp_region_class (fun w' => Below w.heap.size w w') (by kernel_rfl) (by kernel_rfl) (show Below w.heap.size w w5.drew from K.out.drew) ?_
      have hcl : ∀ p : Prop, (∀ w', Below w.heap.size w w' → p) ↔ p := fun p => ⟨fun h => h w (Below.refl _ _), fun h _ _ => h⟩
      go_big_quiet_want
      go_big_quiet_op
      apply Exists.intro
      refine ⟨fun wq hwq => ?_, ?_⟩
      · refine (awake15' wq).mono ?_
        rintro e w' ⟨h1, h2⟩
        exact ⟨h1, nextB hwq h2⟩
      go_big_quiet_on
      repeat (first | go_big_quiet_skip | (go_big_quiet_want; go_big_quiet_op; go_big_quiet_on))
      refine wpQuiet_nil ?_
      intro wq hwq
      go_wp2
      go_ret
      exact ⟨rfl, hwq⟩
    · have hv4 : ¬ v < 4 := fun h => hc ⟨rfl, h⟩
      go_upto_region 20 with (first | (go_at_call 22; (with_reducible refine (FT.out _).mono ?_); rintro e w4 ⟨rfl, hb4⟩; replace X := Lib.hid (block_below X.out (hb4)); replace K := Lib.hid (nextB K.out (hb4)); clear hb4; obtain ⟨b0, b1, b2, b3⟩ := cells4 (X.out)) | (go_at_call 23; (with_reducible refine (SP.out _).mono ?_); rintro e w5 ⟨rfl, hb5⟩; replace X := Lib.hid (block_below X.out (hb5)); replace K := Lib.hid (nextB K.out (hb5)); clear hb5; obtain ⟨c0, c1, c2, c3⟩ := cells4 (X.out)))
      refine wp_region_class (fun w' => Below w.heap.size w w') (by kernel_rfl) (by kernel_rfl) (show Below w.heap.size w w5.drew from K.out.drew) ?_
      have hcl : ∀ p : Prop, (∀ w', Below w.heap.size w w' → p) ↔ p := fun p => ⟨fun h => h w (Below.refl _ _), fun h _ _ => h⟩
      go_big_quiet_want
      go_big_quiet_op
      apply Exists.intro
      refine ⟨fun wq hwq => ?_, ?_⟩
      · refine (awake15' wq).mono ?_
        rintro e w' ⟨h1, h2⟩
        exact ⟨h1, nextB hwq h2⟩
      go_big_quiet_on
      repeat (first | go_big_quiet_skip | (go_big_quiet_want; go_big_quiet_op; go_big_quiet_on))
      refine wpQuiet_nil ?_
      intro wq hwq
      go_wp2
      go_ret
      exact ⟨rfl, hwq⟩
end Go.Proofs.Ytmnmonmbdgedbaa
