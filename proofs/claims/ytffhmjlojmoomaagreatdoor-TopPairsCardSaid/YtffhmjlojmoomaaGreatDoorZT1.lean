/- TopThrough walked: signs are signs. -/
import Derived.Test.YtffhmjlojmoomaaGreatDoorZA9

namespace Go.Proofs.YtffhmjlojmoomaaGreatDoor
open Go.RowKit
set_option linter.unusedVariables false
set_option linter.unusedSimpArgs false

theorem encT_le {bt : Nat → List UInt8} (hb : ∀ p, (bt p).length ≤ 2) : ∀ (ps : List Nat) (b : List UInt8), encT bt ps = some b → b.length ≤ 2 * ps.length
  | [], b, h => by obtain rfl := Option.some.inj h; simp
  | p :: ps, b, h => by
    unfold encT at h
    split at h
    · obtain ⟨c, hc, rfl⟩ := Option.map_eq_some_iff.1 h
      have := encT_le hb ps c hc
      simp
      omega
    split at h
    · cases h
    · obtain ⟨c, hc, rfl⟩ := Option.map_eq_some_iff.1 h
      have := encT_le hb ps c hc
      have := hb p
      simp
      omega
theorem encG_le {C : Cst} : ∀ (n : Nat) (ps : List Nat) (b : List UInt8), ps.length ≤ n → encG (bytB C) ps = some b → b.length ≤ 2 * ps.length
  | _, [], b, _, h => by
    rw [encG] at h
    obtain rfl := Option.some.inj h
    simp
  | 0, p :: ps, b, hn, h => by simp at hn
  | n + 1, p :: ps, b, hn, h => by
    have hn' : ps.length ≤ n := by simpa using hn
    by_cases hp : p < 128
    · rw [encG_low hp] at h
      obtain ⟨b', hb, rfl⟩ := Option.map_eq_some_iff.1 h
      have := encG_le n ps b' hn' hb
      simp
      omega
    · rcases bytB_cases C p (ps.take 1) with h0 | ⟨k, h1⟩ | ⟨k, h2, hne⟩
      · rw [encG_no hp h0] at h
        cases h
      · rw [encG_one hp h1 (.inl (by decide))] at h
        obtain ⟨b', hb, rfl⟩ := Option.map_eq_some_iff.1 h
        have := encG_le n ps b' hn' hb
        have := bigL2_len k
        simp
        omega
      · rcases ps with _ | ⟨q, ps⟩
        · exact absurd rfl hne
        · have h2' : bytB C p [q] = some (k, 2) := h2
          rw [encG_two hp h2'] at h
          obtain ⟨b', hb, rfl⟩ := Option.map_eq_some_iff.1 h
          have := encG_le n ps b' (by simp at hn'; omega) hb
          have := bigL2_len k
          simp
          omega
theorem encR_le {C : Cst} {c : Nat} {t b : List UInt8} (h : EncR C c t b) : b.length ≤ 4 * t.length := by
  obtain ⟨ps, -, rfl, h3⟩ := h
  have hg := encs_ge ps
  unfold encP at h3
  split at h3
  · have := encS_len _ ps b h3
    omega
  split at h3
  · have := encT_le (btC_len C c) ps b h3
    omega
  split at h3
  · have := encG_le ps.length ps b (Nat.le_refl _) h3
    omega
  split at h3
  · obtain rfl := Option.some.inj h3
    omega
  · obtain rfl := Option.some.inj h3
    have := encU_len (c == 9) ps
    omega
theorem cdec_of (C : Cst) (hC : Hid (CstOk C)) (c : Nat) (hc : c < 10) {t x : List UInt8} (ht : t.length ≤ 60) (h : EncR C c t x) (w : World) (hT : Tabs w) (hD : DeB w) : Calls Tryz.prog 8 #[.int .i64 c, .string ⟨x.toArray⟩] w fun e w' => e = .returned (.tuple #[.string ⟨t.toArray⟩, .agg #[.int .i64 0, .int .i64 0]]) ∧ Below w.heap.size w w' :=
  (cdec_any C hC c hc x (by have := encR_le h; omega) w (Lib.hid hT) (Lib.hid hD)).mono fun e w' ⟨u, cd, pl, he, hs, hb⟩ => by
    have hd := decR_encR hC.out h
    rcases hs with ⟨h1, rfl, rfl⟩ | ⟨h1, -⟩
    · obtain rfl := DecR.same h1 hd
      exact ⟨he, hb⟩
    · exact absurd hd (h1 t)
theorem cenc_of (C : Cst) (hC : Hid (CstOk C)) (c : Nat) (hc : c < 10) {t x : List UInt8} (ht : t.length ≤ 60) (h : EncR C c t x) (w : World) (hT : Tabs w) (m : Int) (hm : Mx m w) : Calls Tryz.prog 6 #[.int .i64 c, .string ⟨t.toArray⟩] w fun e w' => e = .returned (.tuple #[.string ⟨x.toArray⟩, .agg #[.int .i64 0, .int .i64 0]]) ∧ Below w.heap.size w w' :=
  (cenc_any C hC c hc t (by omega) w (Lib.hid hT) m (Lib.hid hm)).mono fun e w' ⟨u, cd, pl, he, hs, hb⟩ => by
    rcases hs with ⟨h1, rfl, rfl⟩ | ⟨h1, -⟩
    · obtain rfl := EncR.same h1 h
      exact ⟨he, hb⟩
    · exact absurd h (h1 x)
theorem enc_two_ways {C : Cst} {c : Nat} {t b : List UInt8} {cd pl : Int} (h : EncTells C c t b cd pl) : (EncR C c t b ∧ cd = 0 ∧ pl = 0) ∨ ((cd != 0) = true) := by
  rcases h with h | ⟨-, rfl | rfl⟩
  · exact .inl h
  · exact .inr rfl
  · exact .inr rfl
set_option maxHeartbeats 4000000 in
set_option maxRecDepth 100000 in
theorem through_any (C : Cst) (hC : Hid (CstOk C)) (t : List UInt8) (ht : t.length ≤ 9223372036854775807) (a b : UInt8) (w : World) (hT : Hid (Tabs w)) (hD : Hid (DeB w)) (m : Int) (hm : Hid (Mx m w)) : Calls Tryz.prog 3 #[.string ⟨t.toArray⟩, .int .u8 a.toNat, .int .u8 b.toNat] w fun e w' => e = .returned (.bool true) ∧ Below w.heap.size w w' := by
  have AW := Lib.hid (fun w h1 h2 h3 => awake09 C hC w h1 h2 m h3)
  have K := Lib.hid (Below.refl w.heap.size w)
  have ha := UInt8.toNat_lt a
  have hb := UInt8.toNat_lt b
  go_enter Tryz.func3, Tryz.ntmps3
  by_cases hl : t.length ≤ 60
  · have g0 : (t.length : Int) ≤ 60 := by omega
    go_upto_region 6 with (go_at_call 5; (with_reducible refine (AW.out _ (Lib.hid (hT.out.below K.out)) (Lib.hid (hD.out.below K.out)) (Lib.hid (hm.out.below K.out))).mono ?_); rintro e w1 ⟨rfl, hb1⟩; replace K := Lib.hid (nextB K.out hb1); clear hb1)
    clear AW ha hb g0
    have ec : ((a.toNat : Int) % 10) = ((a.toNat % 10 : Nat) : Int) := by omega
    have ed : ((b.toNat : Int) % 10) = ((b.toNat % 10 : Nat) : Int) := by omega
    have hc : a.toNat % 10 < 10 := by omega
    have hd : b.toNat % 10 < 10 := by omega
    rw [ec, ed]
    clear ec ed
    obtain ⟨c, hce⟩ : ∃ c, c = a.toNat % 10 := ⟨_, rfl⟩
    obtain ⟨d, hde⟩ : ∃ d, d = b.toNat % 10 := ⟨_, rfl⟩
    rw [← hce] at hc
    rw [← hde] at hd
    rw [← hce, ← hde]
    clear hce hde
    have EC := Lib.hid (fun w h1 h2 => cenc_any C hC c hc t (by omega) w h1 m h2)
    have ED := Lib.hid (fun w h1 h2 => cenc_any C hC d hd t (by omega) w h1 m h2)
    go_upto_region 7 with (go_at_call 6; (with_reducible refine (EC.out _ (Lib.hid (hT.out.below K.out)) (Lib.hid (hm.out.below K.out))).mono ?_); rintro e w2 ⟨x, cd1, pl1, rfl, hs, hb1⟩; have H1 := Lib.hid (enc_two_ways hs); clear hs; replace K := Lib.hid (nextB K.out hb1); clear hb1)
    have G1 := Lib.hid (at_a0 w2 #[.int .i64 cd1, .int .i64 pl1] 26)
    have hb1 := (Below.refl w2.heap.size w2).alloc (Nat.le_refl _) (.cells #[.int .i64 cd1, .int .i64 pl1] 26)
    replace K := Lib.hid (nextB K.out hb1); clear hb1
    generalize w2.alloc (.cells #[.int .i64 cd1, .int .i64 pl1] 26) = w3 at *
    generalize w2.heap.size = b1 at *
    go_upto_region 8 with (go_at_call 6; (with_reducible refine (ED.out _ (Lib.hid (hT.out.below K.out)) (Lib.hid (hm.out.below K.out))).mono ?_); rintro e w4 ⟨y, cd2, pl2, rfl, hs, hb1⟩; have H2 := Lib.hid (enc_two_ways hs); clear hs; replace G1 := Lib.hid (block_below G1.out hb1); replace K := Lib.hid (nextB K.out hb1); clear hb1)
    have G2 := Lib.hid (at_a0 w4 #[.int .i64 cd2, .int .i64 pl2] 26)
    have hb1 := (Below.refl w4.heap.size w4).alloc (Nat.le_refl _) (.cells #[.int .i64 cd2, .int .i64 pl2] 26)
    replace G1 := Lib.hid (block_below G1.out hb1)
    replace K := Lib.hid (nextB K.out hb1); clear hb1
    generalize w4.alloc (.cells #[.int .i64 cd2, .int .i64 pl2] 26) = w5 at *
    generalize w4.heap.size = b2 at *
    clear EC ED
    obtain ⟨p0, p1⟩ := cells2 (G1.out)
    have BD1 := Lib.hid (fun w => bad_any cd1 pl1 w)
    rcases H1.out with ⟨R1, rfl, rfl⟩ | hbad
    · rw [show ((0 : Int) != 0) = false by rfl] at BD1
      have R1 := Lib.hid R1
      clear H1
      have BD2 := Lib.hid (fun w => bad_any cd2 pl2 w)
      rcases H2.out with ⟨R2, rfl, rfl⟩ | hbad
      · rw [show ((0 : Int) != 0) = false by rfl] at BD2
        have R2 := Lib.hid R2
        clear H2
        have DX := Lib.hid (fun w h1 h2 => cdec_of C hC c hc hl R1.out w h1 h2)
        have EY := Lib.hid (fun w h1 h2 => cenc_of C hC d hd hl R2.out w h1 m h2)
        have DY := Lib.hid (fun w h1 h2 => cdec_of C hC d hd hl R2.out w h1 h2)
        go_upto_region 10 with (go_at_call 7; (with_reducible refine (BD1.out _).mono ?_); rintro e w6 ⟨rfl, hb1⟩; replace G2 := Lib.hid (block_below G2.out hb1); replace K := Lib.hid (nextB K.out hb1); clear hb1; obtain ⟨q0, q1⟩ := cells2 (G2.out))
        clear G1 G2 BD1
        go_upto_region 11 with (go_at_call 8; (with_reducible refine (DX.out _ (hT.out.below K.out) (hD.out.below K.out)).mono ?_); rintro e w7 ⟨rfl, hb1⟩; replace K := Lib.hid (nextB K.out hb1); clear hb1)
        have G3 := Lib.hid (at_a0 w7 #[.int .i64 0, .int .i64 0] 26)
        have hb1 := (Below.refl w7.heap.size w7).alloc (Nat.le_refl _) (.cells #[.int .i64 0, .int .i64 0] 26)
        replace K := Lib.hid (nextB K.out hb1); clear hb1
        generalize w7.alloc (.cells #[.int .i64 0, .int .i64 0] 26) = w8 at *
        generalize w7.heap.size = nG3 at *
        go_upto_region 12 with (go_at_call 6; (with_reducible refine (EY.out _ (hT.out.below K.out) (hm.out.below K.out)).mono ?_); rintro e w9 ⟨rfl, hb1⟩; replace G3 := Lib.hid (block_below G3.out hb1); replace K := Lib.hid (nextB K.out hb1); clear hb1)
        have G4 := Lib.hid (at_a0 w9 #[.int .i64 0, .int .i64 0] 26)
        have hb1 := (Below.refl w9.heap.size w9).alloc (Nat.le_refl _) (.cells #[.int .i64 0, .int .i64 0] 26)
        replace G3 := Lib.hid (block_below G3.out hb1)
        replace K := Lib.hid (nextB K.out hb1); clear hb1
        generalize w9.alloc (.cells #[.int .i64 0, .int .i64 0] 26) = w10 at *
        generalize w9.heap.size = nG4 at *
        go_upto_region 13 with (go_at_call 8; (with_reducible refine (DY.out _ (hT.out.below K.out) (hD.out.below K.out)).mono ?_); rintro e w11 ⟨rfl, hb1⟩; replace G3 := Lib.hid (block_below G3.out hb1); replace G4 := Lib.hid (block_below G4.out hb1); replace K := Lib.hid (nextB K.out hb1); clear hb1)
        have G5 := Lib.hid (at_a0 w11 #[.int .i64 0, .int .i64 0] 26)
        have hb1 := (Below.refl w11.heap.size w11).alloc (Nat.le_refl _) (.cells #[.int .i64 0, .int .i64 0] 26)
        replace G3 := Lib.hid (block_below G3.out hb1)
        replace G4 := Lib.hid (block_below G4.out hb1)
        replace K := Lib.hid (nextB K.out hb1); clear hb1
        generalize w11.alloc (.cells #[.int .i64 0, .int .i64 0] 26) = w12 at *
        generalize w11.heap.size = nG5 at *
        clear DX EY DY
        obtain ⟨p0, p1⟩ := cells2 (G3.out)
        go_wp2_with (go_at_call 7; (with_reducible refine (BD2.out _).mono ?_); rintro e w13 ⟨rfl, hb1⟩; replace G4 := Lib.hid (block_below G4.out hb1); replace G5 := Lib.hid (block_below G5.out hb1); replace K := Lib.hid (nextB K.out hb1); clear hb1; obtain ⟨q0, q1⟩ := cells2 (G4.out); obtain ⟨r0, r1⟩ := cells2 (G5.out))
        go_ret
        exact ⟨rfl, K.out⟩
      · rw [hbad] at BD2
        clear H2
        go_wp2_with (first | (go_at_call 7; (with_reducible refine (BD1.out _).mono ?_); rintro e w6 ⟨rfl, hb1⟩; replace G2 := Lib.hid (block_below G2.out hb1); replace K := Lib.hid (nextB K.out hb1); clear hb1; obtain ⟨q0, q1⟩ := cells2 (G2.out)) | (go_at_call 7; (with_reducible refine (BD2.out _).mono ?_); rintro e w7 ⟨rfl, hb1⟩; replace K := Lib.hid (nextB K.out hb1); clear hb1))
        go_ret
        exact ⟨rfl, K.out⟩
    · rw [hbad] at BD1
      clear H1 H2
      go_wp2_with (go_at_call 7; (with_reducible refine (BD1.out _).mono ?_); rintro e w6 ⟨rfl, hb1⟩; replace K := Lib.hid (nextB K.out hb1); clear hb1)
      go_ret
      exact ⟨rfl, K.out⟩
  · have g0 : ¬ (t.length : Int) ≤ 60 := by omega
    go_wp2_with (go_at_call 5; (with_reducible refine (AW.out _ (Lib.hid (hT.out.below K.out)) (Lib.hid (hD.out.below K.out)) (Lib.hid (hm.out.below K.out))).mono ?_); rintro e w1 ⟨rfl, hb1⟩; replace K := Lib.hid (nextB K.out hb1); clear hb1)
    go_ret
    exact ⟨rfl, K.out⟩
end Go.Proofs.YtffhmjlojmoomaaGreatDoor
