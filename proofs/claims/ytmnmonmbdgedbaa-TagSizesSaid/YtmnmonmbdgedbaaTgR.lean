/- Layer 15 (tag): the walk of the statement TagSizes: a tag with a foot; all joined. -/
import Derived.Test.YtmnmonmbdgedbaaTgP
namespace Go.Proofs.Ytmnmonmbdgedbaa
open Go.RowKit
set_option linter.unusedVariables false
set_option linter.unusedSimpArgs false

set_option maxHeartbeats 4000000 in
set_option maxRecDepth 100000 in
theorem tsizes_foot (v : Int) (rv fl : UInt8) (a : Option Addr) (n cap : Nat) (s : List UInt8) (N : Nat) (sp : Bool) {HS : World → Prop} (w : World) (hs : Hid (∀ w', Below w.heap.size w w' → HS w'))
    (hs0 : 10 ≤ s.length) (hs1 : s.length ≤ 100000) (hl6 : s[6].toNat < 128) (hl7 : s[7].toNat < 128) (hl8 : s[8].toNat < 128) (hl9 : s[9].toNat < 128) (hv4 : ¬ v < 4)
    (HN : Hid (((s[6].toNat * 128 + s[7].toNat) * 128 + s[8].toNat) * 128 + s[9].toNat = N)) (hN : s.length = 20 + N)
    (H1 : Hid ((s.drop (10 + N)).take 3 = [51, 68, 73])) (H2 : Hid (s.drop (13 + N) = (s.drop 3).take 7))
    (LG : Hid (∀ w, HS w → Calls Try.prog 14 #[.agg #[.int .i64 v, .int .u8 rv.toNat, .int .u8 fl.toNat, .slice a n cap]] w (SaysB true w)))
    (PR : Hid (∀ w, HS w → Calls Try.prog 15 #[.agg #[.int .i64 v, .int .u8 rv.toNat, .int .u8 fl.toNat, .slice a n cap]] w (TPrints s (0, 0) w)))
    (FT : Hid (∀ w, Calls Try.prog 22 #[.agg #[.int .i64 v, .int .u8 rv.toNat, .int .u8 fl.toNat]] w fun e w' => e = .returned (.bool true) ∧ Below w.heap.size w w'))
    (SP : Hid (∀ w, Calls Try.prog 23 #[.agg #[.int .i64 v, .int .u8 rv.toNat, .int .u8 fl.toNat]] w fun e w' => e = .returned (.bool sp) ∧ Below w.heap.size w w')) :
    Calls Try.prog 4 #[.agg #[.int .i64 v, .int .u8 rv.toNat, .int .u8 fl.toNat, .slice a n cap]] w fun e w' => e = .returned (.bool true) ∧ Below w.heap.size w w' := by
  have BD := Lib.hid (fun w => bad_any 0 0 w)
  rw [show ((0 : Int) != 0) = false by rfl] at BD
  have HS0 := Lib.hid (hs.out _ ((Below.refl w.heap.size w).alloc (Nat.le_refl _) (.cells #[.int .i64 v, .int .u8 rv.toNat, .int .u8 fl.toNat, .slice a n cap] 26)))
  have HN2 := Lib.hid hN
  clear hN
  have c6 := byte_le s[6]
  have c7 := byte_le s[7]
  have c8 := byte_le s[8]
  have c9 := byte_le s[9]
  have g0 : (10 : Int) ≤ s.length := by omega
  have i6 : (6 : Int) < s.length := by omega
  have i7 : (7 : Int) < s.length := by omega
  have i8 : (8 : Int) < s.length := by omega
  have i9 : (9 : Int) < s.length := by omega
  unfold SaysB TPrints at *
  go_enter Try.func4, Try.ntmps4
  go_upto_region 8 with (first | (go_at_call 14; (with_reducible refine (LG.out _ HS0.out).mono ?_); rintro e w1 ⟨rfl, hb1⟩; have X := Lib.hid (block_below (at_a0 w _ _) hb1); have K := Lib.hid (below_a1 hb1); obtain ⟨x0, x1, x2, x3⟩ := cells4 (X.out); clear hb1) | (go_at_call 15; (with_reducible refine (PR.out _ (hs.out _ K.out)).mono ?_); rintro e w2 ⟨rfl, hb2⟩; replace X := Lib.hid (block_below X.out (hb2)); replace K := Lib.hid (nextB K.out (hb2)); clear hb2) | (go_at_call 16; (with_reducible refine (BD.out _).mono ?_); rintro e w3 ⟨rfl, hb3⟩; replace X := Lib.hid (block_below X.out (below_a1 hb3)); replace K := Lib.hid (nextB K.out (below_a1 hb3)); clear hb3))
  clear x0 x1 x2 x3
  go_quiet (fail)
  go_upto_region 9 with (fail)
  rw [or7 _ _ _ _ hl6 hl7 hl8 hl9, HN.out]
  obtain ⟨y1, e1, l1⟩ : ∃ y1 : UInt8, bits .or .u8 (s[6].toNat : Int) (s[7].toNat : Int) = (y1.toNat : Int) ∧ y1.toNat < 128 := ⟨_, orB _ _, or_low _ _ hl6 hl7⟩
  obtain ⟨y2, e2, l2⟩ : ∃ y2 : UInt8, bits .or .u8 (y1.toNat : Int) (s[8].toNat : Int) = (y2.toNat : Int) ∧ y2.toNat < 128 := ⟨_, orB _ _, or_low _ _ l1 hl8⟩
  obtain ⟨y3, e3, l3⟩ : ∃ y3 : UInt8, bits .or .u8 (y2.toNat : Int) (s[9].toNat : Int) = (y3.toNat : Int) ∧ y3.toNat < 128 := ⟨_, orB _ _, or_low _ _ l2 hl9⟩
  have l3i : (y3.toNat : Int) < 128 := by omega
  have hN := HN2.out
  have tN : ((s.length : Int) == 10 + (N : Int) + 10) = true := by simp; omega
  have tN2 : ((s.length : Int) != 10 + (N : Int) + 10) = false := by simp; omega
  have hN5 : (N : Int) ≤ 100000 := by omega
  have j3 : (10 : Int) + (N : Int) + 3 ≤ s.length := by omega
  have ww1 : IntKind.i64.wrap (10 + (N : Int)) = 10 + (N : Int) := IntWalk.i64_in _ (by omega)
  have ww2 : IntKind.i64.wrap (10 + (N : Int) + 3) = 10 + (N : Int) + 3 := IntWalk.i64_in _ (by omega)
  have ww3 : IntKind.i64.wrap (10 + (N : Int) + 10) = 10 + (N : Int) + 10 := IntWalk.i64_in _ (by omega)
  have n1 : ((10 : Int) + (N : Int)).toNat = 10 + N := by omega
  have n2 : ((10 : Int) + (N : Int) + 3).toNat = 13 + N := by omega
  have j5 : (10 : Int) + (N : Int) ≤ 10 + (N : Int) + 3 := by omega
  have t1 : (List.take (13 + N - (10 + N)) (List.drop (10 + N) s) == [51, 68, 73]) = true := by rw [show 13 + N - (10 + N) = 3 by omega, H1.out]; rfl
  have t2 : (List.take (s.length - (13 + N)) (List.drop (13 + N) s) == List.take 7 (List.drop 3 s)) = true := by rw [List.take_of_length_le (by rw [List.length_drop]; exact Nat.le_refl _), H2.out]; simp
  clear HN HN2 hN hl6 hl7 hl8 hl9
  replace X : Hid ((World.drewN w3 nq).heap[w.heap.size]? = some (.cells #[.int .i64 v, .int .u8 rv.toNat, .int .u8 fl.toNat, .slice a n cap] 26 (0, 0))) := Lib.hid X.out
  replace K := Lib.hid (fr_belowN K.out nq)
  generalize World.drewN w3 nq = v1 at *
  obtain ⟨a0, a1, a2, a3⟩ := cells4 (X.out)
  go_upto_region 12 with (go_at_call 22; (with_reducible refine (FT.out _).mono ?_); rintro e w4 ⟨rfl, hb4⟩; replace X := Lib.hid (block_below X.out (hb4)); replace K := Lib.hid (nextB K.out (hb4)); clear hb4; obtain ⟨b0, b1, b2, b3⟩ := cells4 (X.out))
  go_quiet (fail)
  replace X : Hid ((World.drewN w4 nq).heap[w.heap.size]? = some (.cells #[.int .i64 v, .int .u8 rv.toNat, .int .u8 fl.toNat, .slice a n cap] 26 (0, 0))) := Lib.hid X.out
  replace K := Lib.hid (fr_belowN K.out nq)
  generalize World.drewN w4 nq = v2 at *
  clear a0 a1 a2 a3 b0 b1 b2 b3
  obtain ⟨d0, d1, d2, d3⟩ := cells4 (X.out)
  rcases sp with _ | _
  all_goals (
    go_upto_region 20 with (go_at_call 23; (with_reducible refine (SP.out _).mono ?_); rintro e w5 ⟨rfl, hb5⟩; replace X := Lib.hid (block_below X.out (hb5)); replace K := Lib.hid (nextB K.out (hb5)); clear hb5; obtain ⟨c0, c1, c2, c3⟩ := cells4 (X.out))
    refine wp_region_class (fun w' => Below w.heap.size w w') (by kernel_rfl) (by kernel_rfl) (show Below w.heap.size w w5.drew from K.out.drew) ?_
    have hcl : ∀ p : Prop, (∀ w', Below w.heap.size w w' → p) ↔ p := fun p => ⟨fun h => h w (Below.refl _ _), fun h _ _ => h⟩
    go_big_quiet_want
    go_big_quiet_op
    apply Exists.intro
    refine ⟨fun wq hwq => ?_, ?_⟩
    · refine (awake15' wq).mono ?_
      rintro e w' ⟨h1, h2⟩
      exact ⟨h1, nextB hwq h2⟩
    go_big_quiet_on
    repeat (first | go_big_quiet_skip | (go_big_quiet_want; go_big_quiet_op; go_big_quiet_on))
    refine wpQuiet_nil ?_
    intro wq hwq
    go_wp2
    go_ret
    exact ⟨rfl, hwq⟩)
theorem TagIn.light {w w' : World} {a : Option Addr} {n : Nat} {fs : List Fr} (h : RecsAt w a n 6 (fs.map frR)) (hb : Below w.heap.size w w') : RecsAt w' a n 6 (fs.map frR) := h.below hb
theorem walk_TagSizes (w : World) (tv : Value) (ht : TagIn w tv) : Calls Try.prog 4 #[tv] w fun e w' => e = .returned (.bool true) ∧ Below w.heap.size w w' := by
  obtain ⟨⟨v, rv, fl, fs⟩, a, n, cap, rfl, hr, hn, hp⟩ := ht
  have hnl : fs.length = n := by simpa using hr.1
  have hs := Lib.hid (fun w' (h : Below w.heap.size w w') => hr.below h)
  cases hl : lightT fs with
  | false =>
    exact tsizes_over v rv fl a n cap (HS := fun w' => RecsAt w' a n 6 (fs.map frR)) w hs (Lib.hid fun w' h => by have := light_in v rv fl a n cap fs w' (Lib.hid h) hn; rw [hl] at this; exact this)
  | true =>
    have LG : Hid (∀ w', RecsAt w' a n 6 (fs.map frR) → Calls Try.prog 14 #[.agg #[.int .i64 v, .int .u8 rv.toNat, .int .u8 fl.toNat, .slice a n cap]] w' (SaysB true w')) := Lib.hid fun w' h => by have := light_in v rv fl a n cap fs w' (Lib.hid h) hn; rw [hl] at this; exact this
    obtain ⟨hn30, hsm⟩ := light_parts hl
    have PR := fun w' (h : RecsAt w' a n 6 (fs.map frR)) => tprint_any ⟨v, rv, fl, fs⟩ a n cap w' h (by omega) (fun f hf => by have := hsm f hf; omega) (fun hc => by have := light_body (t := ⟨v, rv, fl, fs⟩) hl hc; exact Nat.le_trans this (by decide))
    by_cases hc : (checkT ⟨v, rv, fl, fs⟩).1 = 0
    rotate_left
    · exact tsizes_bad v rv fl a n cap _ (checkT ⟨v, rv, fl, fs⟩).1 (checkT ⟨v, rv, fl, fs⟩).2 (HS := fun w' => RecsAt w' a n 6 (fs.map frR)) w hc hs LG (Lib.hid PR)
    · obtain ⟨h0, hb, hf, _⟩ := checkT_ok hc
      have hlen : (bodyL v fs).length ≤ 20000 := light_body (t := ⟨v, rv, fl, fs⟩) hl hc
      have hbt := bodyT_le v fl fs
      have hbt2 : (bodyT v fl fs).length ≤ 40000 := by omega
      obtain ⟨q, a1, b1, c1, d1, la, lb, lc, ld, hnum, hform⟩ := printT_form ⟨v, rv, fl, fs⟩ hb (show (bodyT v fl fs).length ≤ _ by omega)
      rw [if_pos hc, h0] at PR
      have FT := fun w => foot_any v rv fl w
      have SP := fun w => tspread_any v rv fl w
      obtain ⟨hv, _, _⟩ := badH_ok hb
      cases hft : footB v fl with
      | false =>
        rw [hft] at FT hform
        simp only [Bool.false_eq_true, if_false, List.append_nil] at hform
        rw [hform] at PR
        refine tsizes_in v rv fl a n cap (73 :: 68 :: 51 :: q :: rv :: fl :: a1 :: b1 :: c1 :: d1 :: bodyT v fl fs) (bodyT v fl fs).length (tb fl 128) (HS := fun w' => RecsAt w' a n 6 (fs.map frR)) w hs (by simp) (by simp; omega) la lb lc ld (Lib.hid hnum) (by simp; omega) (Lib.hid ?_) LG (Lib.hid PR) (Lib.hid FT) (Lib.hid SP)
        intro hsp hv4 j hj h h255
        have hw : wholeB v fl = true := by unfold wholeB; rw [if_neg (by omega)]; exact hsp
        refine put_next [73, 68, 51, q, rv, fl, a1, b1, c1, d1] (bodyL v fs) _ ?_ j hj h h255
        unfold bodyT
        rw [if_pos hw]
        rfl
      | true =>
        rw [hft] at FT hform
        simp only [if_true] at hform
        rw [hform] at PR
        have hv4 : ¬ v < 4 := by
          intro h
          unfold footB at hft
          rw [if_neg (by omega)] at hft
          exact absurd hft (by decide)
        refine tsizes_foot v rv fl a n cap (73 :: 68 :: 51 :: q :: rv :: fl :: a1 :: b1 :: c1 :: d1 :: (bodyT v fl fs ++ [51, 68, 73, q, rv, fl, a1, b1, c1, d1])) (bodyT v fl fs).length (tb fl 128) (HS := fun w' => RecsAt w' a n 6 (fs.map frR)) w hs (by simp) (by simp; omega) la lb lc ld hv4 (Lib.hid hnum) (by simp; omega) (Lib.hid ?_) (Lib.hid ?_) LG (Lib.hid PR) (Lib.hid FT) (Lib.hid SP)
        · rw [show 10 + (bodyT v fl fs).length = (bodyT v fl fs).length + 10 by omega]
          simp [List.drop_append]
        · rw [show 13 + (bodyT v fl fs).length = (bodyT v fl fs).length + 3 + 10 by omega]
          simp [List.drop_append]
end Go.Proofs.Ytmnmonmbdgedbaa
