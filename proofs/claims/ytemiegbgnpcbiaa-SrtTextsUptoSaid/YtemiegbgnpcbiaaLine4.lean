/- The walks of layer 22 (line): Digits, Capitals, Like; the document's. -/
import Derived.Test.YtemiegbgnpcbiaaLine3
import Derived.Deep.QuietTactic
import Derived.BigQuiet
namespace Go.Proofs.Ytemiegbgnpcbiaa
open Go.RowKit
set_option linter.unusedVariables false

theorem all_no {p : UInt8 → Bool} {l : List UInt8} (k : Nat) (h : k < l.length) (hp : p l[k] = false) : l.all p = false := by
  rw [List.all_eq_false]
  exact ⟨l[k], List.getElem_mem h, by simp [hp]⟩
theorem all_take {p : UInt8 → Bool} {l : List UInt8} (k : Nat) (h : k < l.length) (h0 : (l.take k).all p = true) (hp : p l[k] = true) : (l.take (k + 1)).all p = true := by
  rw [List.take_succ_eq_append_getElem h, List.all_append, h0]; simp [hp]
theorem isDigit_int (c : UInt8) : isDigit c = decide ((48 : Int) ≤ c.toNat ∧ (c.toNat : Int) ≤ 57) := by
  unfold isDigit; congr 1; exact propext ⟨fun h => by omega, fun h => by omega⟩

set_option maxRecDepth 100000 in
theorem digit_any (c : UInt8) (w : World) : Calls Try.prog 33 #[.int .u8 c.toNat] w fun e w' => e = .returned (.bool (isDigit c)) ∧ w = w' := by
  rw [isDigit_int]
  by_cases h1 : (48 : Int) ≤ c.toNat
  · by_cases h2 : (c.toNat : Int) ≤ 57
    · go_enter Try.func33, Try.ntmps33
      go_wp2
      go_ret
      exact ⟨ret_bool (by first | (simp; done) | (simp; omega) | (simp_all; done) | (simp_all; omega)), rfl⟩
    · go_enter Try.func33, Try.ntmps33
      go_wp2
      go_ret
      exact ⟨ret_bool (by first | (simp; done) | (simp; omega) | (simp_all; done) | (simp_all; omega)), rfl⟩
  · go_enter Try.func33, Try.ntmps33
    go_wp2
    go_ret
    exact ⟨ret_bool (by first | (simp; done) | (simp; omega) | (simp_all; done) | (simp_all; omega)), rfl⟩

set_option maxRecDepth 100000 in
theorem rdigit_any (c : UInt8) (w : World) : Calls Try.prog 34 #[.int .u8 c.toNat] w fun e w' => e = .returned (.bool (isDigit c)) ∧ w = w' := by
  rw [isDigit_int]
  by_cases h1 : (48 : Int) ≤ c.toNat
  · by_cases h2 : (c.toNat : Int) ≤ 57
    · go_enter Try.func34, Try.ntmps34
      go_wp2
      go_ret
      exact ⟨ret_bool (by first | (simp; done) | (simp; omega) | (simp_all; done) | (simp_all; omega)), rfl⟩
    · go_enter Try.func34, Try.ntmps34
      go_wp2
      go_ret
      exact ⟨ret_bool (by first | (simp; done) | (simp; omega) | (simp_all; done) | (simp_all; omega)), rfl⟩
  · go_enter Try.func34, Try.ntmps34
    go_wp2
    go_ret
    exact ⟨ret_bool (by first | (simp; done) | (simp; omega) | (simp_all; done) | (simp_all; omega)), rfl⟩

theorem isCap_int (c : UInt8) : isCap c = (isDigit c || decide ((65 : Int) ≤ c.toNat ∧ (c.toNat : Int) ≤ 90)) := by
  unfold isCap; congr 2; exact propext ⟨fun h => by omega, fun h => by omega⟩
set_option maxRecDepth 100000 in
theorem rcap_any (c : UInt8) (w : World) : Calls Try.prog 35 #[.int .u8 c.toNat] w fun e w' => e = .returned (.bool (isCap c)) ∧ w = w' := by
  rw [isCap_int]
  have HD := Lib.hid (fun w => rdigit_any c w)
  rcases hD : isDigit c with _ | _
  · rw [hD] at HD
    by_cases h1 : (65 : Int) ≤ c.toNat
    · by_cases h2 : (c.toNat : Int) ≤ 90
      · go_enter Try.func35, Try.ntmps35
        go_wp2_with (go_at_call 34; refine (HD.out _).mono ?_; rintro e w1 ⟨rfl, rfl⟩)
        go_ret
        exact ⟨ret_bool (by first | (simp; done) | (simp; omega) | (simp_all; done) | (simp_all; omega)), rfl⟩
      · go_enter Try.func35, Try.ntmps35
        go_wp2_with (go_at_call 34; refine (HD.out _).mono ?_; rintro e w1 ⟨rfl, rfl⟩)
        go_ret
        exact ⟨ret_bool (by first | (simp; done) | (simp; omega) | (simp_all; done) | (simp_all; omega)), rfl⟩
    · go_enter Try.func35, Try.ntmps35
      go_wp2_with (go_at_call 34; refine (HD.out _).mono ?_; rintro e w1 ⟨rfl, rfl⟩)
      go_ret
      exact ⟨ret_bool (by first | (simp; done) | (simp; omega) | (simp_all; done) | (simp_all; omega)), rfl⟩
  · rw [hD] at HD
    go_enter Try.func35, Try.ntmps35
    go_wp2_with (go_at_call 34; refine (HD.out _).mono ?_; rintro e w1 ⟨rfl, rfl⟩)
    go_ret
    exact ⟨ret_bool rfl, rfl⟩

set_option maxHeartbeats 1000000 in
set_option maxRecDepth 100000 in
theorem digits_any (l : List UInt8) (w : World) (hl : l.length ≤ 1000000000) : Calls Try.prog 16 #[.string ⟨l.toArray⟩] w fun e w' => e = .returned (.bool (digitsL l)) ∧ w = w' := by
  go_enter Try.func16, Try.ntmps16
  go_wp2
  go_loopw [6] (fun i wr => ∃ (k : Nat), k ≤ l.length ∧ i = .int .i64 k ∧ Hid ((l.take k).all isDigit = true) ∧ wr = w) (fun i _ => l.length - (intOf i).toNat)
  case atStart => exact ⟨0, by omega, rfl, Lib.hid (by simp), rfl⟩
  case round =>
    obtain ⟨k, hk, rfl, HA, rfl⟩ := hrel
    by_cases hlt : k < l.length
    · have h0 : (k : Int) < l.length := by omega
      have HC := Lib.hid (fun w => digit_any l[k] w)
      rcases hP : isDigit l[k] with _ | _
      · rw [hP] at HC
        have HF := Lib.hid (all_no k hlt hP)
        clear hP
        go_wp2_with (go_at_call 33; refine (HC.out _).mono ?_; rintro e w1 ⟨rfl, rfl⟩)
        go_ret
        exact ⟨ret_bool (by simp [digitsL, HF.out]), rfl⟩
      · rw [hP] at HC
        have HT := Lib.hid (all_take k hlt HA.out hP)
        clear hP
        go_wp2_with (go_at_call 33; refine (HC.out _).mono ?_; rintro e w1 ⟨rfl, rfl⟩)
        exact ⟨⟨k + 1, by omega, by simp, HT, by first | rfl | trivial⟩, by simp [intOf]; omega⟩
    · have h0 : ¬ (k : Int) < l.length := by omega
      have ht := HA.out
      rw [List.take_of_length_le (by omega)] at ht
      have HT := Lib.hid ht
      clear ht
      have HZ : digitsL l = !l.isEmpty := by simp [digitsL, HT.out]
      rcases hE : l.isEmpty with _ | _
      · have hp : (0 : Int) < l.length := by cases l <;> simp at hE ⊢ <;> omega
        go_wp2
        go_ret
        exact ⟨ret_bool (by first | rfl | (simp; done) | (simp; omega) | (simp; exact List.isEmpty_iff.1 hE)), rfl⟩
      · have hp : ¬ (0 : Int) < l.length := by cases l <;> simp at hE ⊢
        go_wp2
        go_ret
        exact ⟨ret_bool (by first | rfl | (simp; done) | (simp; omega) | (simp; exact List.isEmpty_iff.1 hE)), rfl⟩

set_option maxHeartbeats 1000000 in
set_option maxRecDepth 100000 in
theorem rdigits_any (l : List UInt8) (w : World) (hl : l.length ≤ 1000000000) : Calls Try.prog 17 #[.string ⟨l.toArray⟩] w fun e w' => e = .returned (.bool (digitsL l)) ∧ w = w' := by
  go_enter Try.func17, Try.ntmps17
  go_wp2
  go_loopw [3] (fun i wr => ∃ (k : Nat), k ≤ l.length ∧ i = .int .i64 k ∧ Hid ((l.take k).all isDigit = true) ∧ wr = w) (fun i _ => l.length - (intOf i).toNat)
  case atStart => exact ⟨0, by omega, rfl, Lib.hid (by simp), rfl⟩
  case round =>
    obtain ⟨k, hk, rfl, HA, rfl⟩ := hrel
    by_cases hlt : k < l.length
    · have h0 : (k : Int) < l.length := by omega
      have HC := Lib.hid (fun w => rdigit_any l[k] w)
      rcases hP : isDigit l[k] with _ | _
      · rw [hP] at HC
        have HF := Lib.hid (all_no k hlt hP)
        clear hP
        go_wp2_with (go_at_call 34; refine (HC.out _).mono ?_; rintro e w1 ⟨rfl, rfl⟩)
        go_ret
        exact ⟨ret_bool (by simp [digitsL, HF.out]), rfl⟩
      · rw [hP] at HC
        have HT := Lib.hid (all_take k hlt HA.out hP)
        clear hP
        go_wp2_with (go_at_call 34; refine (HC.out _).mono ?_; rintro e w1 ⟨rfl, rfl⟩)
        exact ⟨⟨k + 1, by omega, by simp, HT, by first | rfl | trivial⟩, by simp [intOf]; omega⟩
    · have h0 : ¬ (k : Int) < l.length := by omega
      have ht := HA.out
      rw [List.take_of_length_le (by omega)] at ht
      have HT := Lib.hid ht
      clear ht
      have HZ : digitsL l = !l.isEmpty := by simp [digitsL, HT.out]
      rcases hE : l.isEmpty with _ | _
      · have hp : (0 : Int) < l.length := by cases l <;> simp at hE ⊢ <;> omega
        go_wp2
        go_ret
        exact ⟨ret_bool (by first | rfl | (simp; done) | (simp; omega) | (simp; exact List.isEmpty_iff.1 hE)), rfl⟩
      · have hp : ¬ (0 : Int) < l.length := by cases l <;> simp at hE ⊢
        go_wp2
        go_ret
        exact ⟨ret_bool (by first | rfl | (simp; done) | (simp; omega) | (simp; exact List.isEmpty_iff.1 hE)), rfl⟩

set_option maxHeartbeats 1000000 in
set_option maxRecDepth 100000 in
theorem rcaps_any (l : List UInt8) (w : World) (hl : l.length ≤ 1000000000) : Calls Try.prog 19 #[.string ⟨l.toArray⟩] w fun e w' => e = .returned (.bool (capsL l)) ∧ w = w' := by
  go_enter Try.func19, Try.ntmps19
  go_wp2
  go_loopw [3] (fun i wr => ∃ (k : Nat), k ≤ l.length ∧ i = .int .i64 k ∧ Hid ((l.take k).all isCap = true) ∧ wr = w) (fun i _ => l.length - (intOf i).toNat)
  case atStart => exact ⟨0, by omega, rfl, Lib.hid (by simp), rfl⟩
  case round =>
    obtain ⟨k, hk, rfl, HA, rfl⟩ := hrel
    by_cases hlt : k < l.length
    · have h0 : (k : Int) < l.length := by omega
      have HC := Lib.hid (fun w => rcap_any l[k] w)
      rcases hP : isCap l[k] with _ | _
      · rw [hP] at HC
        have HF := Lib.hid (all_no k hlt hP)
        clear hP
        go_wp2_with (go_at_call 35; refine (HC.out _).mono ?_; rintro e w1 ⟨rfl, rfl⟩)
        go_ret
        exact ⟨ret_bool (by simp [capsL, HF.out]), rfl⟩
      · rw [hP] at HC
        have HT := Lib.hid (all_take k hlt HA.out hP)
        clear hP
        go_wp2_with (go_at_call 35; refine (HC.out _).mono ?_; rintro e w1 ⟨rfl, rfl⟩)
        exact ⟨⟨k + 1, by omega, by simp, HT, by first | rfl | trivial⟩, by simp [intOf]; omega⟩
    · have h0 : ¬ (k : Int) < l.length := by omega
      have ht := HA.out
      rw [List.take_of_length_le (by omega)] at ht
      have HT := Lib.hid ht
      clear ht
      have HZ : capsL l = !l.isEmpty := by simp [capsL, HT.out]
      rcases hE : l.isEmpty with _ | _
      · have hp : (0 : Int) < l.length := by cases l <;> simp at hE ⊢ <;> omega
        go_wp2
        go_ret
        exact ⟨ret_bool (by first | rfl | (simp; done) | (simp; omega) | (simp; exact List.isEmpty_iff.1 hE)), rfl⟩
      · have hp : ¬ (0 : Int) < l.length := by cases l <;> simp at hE ⊢
        go_wp2
        go_ret
        exact ⟨ret_bool (by first | rfl | (simp; done) | (simp; omega) | (simp; exact List.isEmpty_iff.1 hE)), rfl⟩

set_option maxHeartbeats 1000000 in
set_option maxRecDepth 100000 in
theorem caps_any (l : List UInt8) (w : World) (hl : l.length ≤ 1000000000) : Calls Try.prog 18 #[.string ⟨l.toArray⟩] w fun e w' => e = .returned (.bool (capsL l)) ∧ w = w' := by
  go_enter Try.func18, Try.ntmps18
  go_wp2
  go_loopw [6] (fun i wr => ∃ (k : Nat), k ≤ l.length ∧ i = .int .i64 k ∧ Hid ((l.take k).all isCap = true) ∧ wr = w) (fun i _ => l.length - (intOf i).toNat)
  case atStart => exact ⟨0, by omega, rfl, Lib.hid (by simp), rfl⟩
  case round =>
    obtain ⟨k, hk, rfl, HA, rfl⟩ := hrel
    by_cases hlt : k < l.length
    · have h0 : (k : Int) < l.length := by omega
      have HC := Lib.hid (fun w => digit_any l[k] w)
      rcases hD : isDigit l[k] with _ | _
      · rw [hD] at HC
        by_cases h1 : (l[k].toNat : Int) < 65
        · have h1' : ¬ (65 : Int) ≤ l[k].toNat := by omega
          have HF := Lib.hid (all_no (p := isCap) k hlt (by rw [isCap_int]; simp [hD, h1']))
          go_wp2_with (go_at_call 33; refine (HC.out _).mono ?_; rintro e w1 ⟨rfl, rfl⟩)
          go_ret
          exact ⟨ret_bool (by simp [capsL, HF.out]), rfl⟩
        · have h1' : (65 : Int) ≤ l[k].toNat := by omega
          by_cases h2 : (90 : Int) < l[k].toNat
          · have h2' : ¬ (l[k].toNat : Int) ≤ 90 := by omega
            have HF := Lib.hid (all_no (p := isCap) k hlt (by rw [isCap_int]; simp [hD, h1', h2']))
            go_wp2_with (go_at_call 33; refine (HC.out _).mono ?_; rintro e w1 ⟨rfl, rfl⟩)
            go_ret
            exact ⟨ret_bool (by simp [capsL, HF.out]), rfl⟩
          · have h2' : (l[k].toNat : Int) ≤ 90 := by omega
            have g1 : decide ((l[k].toNat : Int) < 65) = false := by simp; omega
            have g2 : decide ((90 : Int) < l[k].toNat) = false := by simp; omega
            have HT := Lib.hid (all_take k hlt HA.out (show isCap l[k] = true by rw [isCap_int]; simp [hD, h1', h2']))
            go_wp2_with (go_at_call 33; refine (HC.out _).mono ?_; rintro e w1 ⟨rfl, rfl⟩)
            exact ⟨⟨k + 1, by omega, by simp, HT, by first | rfl | trivial⟩, by simp [intOf]; omega⟩
      · rw [hD] at HC
        have HT := Lib.hid (all_take k hlt HA.out (show isCap l[k] = true by rw [isCap_int]; simp [hD]))
        go_wp2_with (go_at_call 33; refine (HC.out _).mono ?_; rintro e w1 ⟨rfl, rfl⟩)
        exact ⟨⟨k + 1, by omega, by simp, HT, by first | rfl | trivial⟩, by simp [intOf]; omega⟩
    · have h0 : ¬ (k : Int) < l.length := by omega
      have ht := HA.out
      rw [List.take_of_length_le (by omega)] at ht
      have HT := Lib.hid ht
      clear ht
      have HZ : capsL l = !l.isEmpty := by simp [capsL, HT.out]
      rcases hE : l.isEmpty with _ | _
      · have hp : (0 : Int) < l.length := by cases l <;> simp at hE ⊢ <;> omega
        go_wp2
        go_ret
        exact ⟨ret_bool (by first | rfl | (simp; done) | (simp; omega) | (simp; exact List.isEmpty_iff.1 hE)), rfl⟩
      · have hp : ¬ (0 : Int) < l.length := by cases l <;> simp at hE ⊢
        go_wp2
        go_ret
        exact ⟨ret_bool (by first | rfl | (simp; done) | (simp; omega) | (simp; exact List.isEmpty_iff.1 hE)), rfl⟩

theorem below_drewN {B : Nat} {w w' : World} (h : Below B w w') (n : Nat) : Below B w (w'.drewN n) := ⟨h.os, h.tape, h.output, h.size, h.block⟩
theorem like_no (s f : List UInt8) (k : Nat) (h1 : k < s.length) (h2 : k < f.length) (h : likeB s[k] f[k] = false) : likeL s f = false := by
  unfold likeL
  rw [Bool.and_eq_false_iff]
  right
  rw [List.all_eq_false]
  refine ⟨(s[k], f[k]), ?_, by simp [h]⟩
  have : (s.zip f)[k]'(by simp; omega) = (s[k], f[k]) := List.getElem_zip
  rw [← this]
  exact List.getElem_mem _
theorem like_more (s f : List UInt8) (k : Nat) (h1 : k < s.length) (h2 : k < f.length) (hA : ∀ j (h1 : j < s.length) (h2 : j < f.length), j < k → likeB s[j] f[j] = true) (h : likeB s[k] f[k] = true) :
    ∀ j (h1 : j < s.length) (h2 : j < f.length), j < k + 1 → likeB s[j] f[j] = true := by
  intro j g1 g2 hj
  by_cases e : j < k
  · exact hA j g1 g2 e
  · obtain rfl : j = k := by omega
    exact h
theorem like_yes (s f : List UInt8) (hl : s.length = f.length) (h : ∀ j (h1 : j < s.length) (h2 : j < f.length), likeB s[j] f[j] = true) : likeL s f = true := by
  unfold likeL
  rw [Bool.and_eq_true]
  refine ⟨by simp [hl], ?_⟩
  rw [List.all_eq_true]
  intro p hp
  obtain ⟨k, hk, rfl⟩ := List.getElem_of_mem hp
  have : (s.zip f)[k] = (s[k]'(by simp at hk; omega), f[k]'(by simp at hk; omega)) := List.getElem_zip
  rw [this]
  exact h k _ _

set_option maxHeartbeats 1000000 in
set_option maxRecDepth 100000 in
theorem like_any (s f : List UInt8) (w : World) (hs : s.length ≤ 1000000000) (hf : f.length ≤ 1000000000) : Calls Try.prog 20 #[.string ⟨s.toArray⟩, .string ⟨f.toArray⟩] w fun e w' => e = .returned (.bool (likeL s f)) ∧ Below w.heap.size w w' := by
  by_cases hne : s.length = f.length
  · have h9 : ((s.length : Int) != f.length) = false := by simp; omega
    go_enter Try.func20, Try.ntmps20
    go_wp2
    go_loopw [13] (fun i wr => ∃ (k : Nat), k ≤ f.length ∧ i = .int .i64 k ∧ Hid (∀ j (h1 : j < s.length) (h2 : j < f.length), j < k → likeB s[j] f[j] = true) ∧ Hid (Below w.heap.size w wr)) (fun i _ => f.length - (intOf i).toNat)
    case atStart => exact ⟨0, by omega, rfl, Lib.hid (fun j _ _ h => absurd h (by omega)), Lib.hid (Below.refl _ _)⟩
    case round =>
      obtain ⟨k, hk, rfl, HA, HB⟩ := hrel
      by_cases hlt : k < f.length
      · have hks : k < s.length := by omega
        have h0 : (k : Int) < f.length := by omega
        have h1 : (k : Int) < s.length := by omega
        have HC := Lib.hid (fun w => digit_any s[k] w)
        have HN := Lib.hid (fun (h : likeB s[k] f[k] = false) => like_no s f k hks hlt h)
        have HY := Lib.hid (like_more s f k hks hlt HA.out)
        rcases hA : ((f[k].toNat : Int) == 48) with _ | _
        · have hb : likeB s[k] f[k] = (s[k] == f[k]) := by unfold likeB; rw [if_neg]; intro e; rw [e] at hA; simp at hA
          rcases hB : ((s[k].toNat : Int) != f[k].toNat) with _ | _
          · have he : likeB s[k] f[k] = true := by rw [hb, beq_iff_eq, u8_eq]; simp at hB; omega
            have hB' : ((f[k].toNat : Int) != s[k].toNat) = false := by simp at hB ⊢; omega
            go_wp2
            go_quiet (fail)
            go_wp2
            exact ⟨⟨k + 1, by omega, by simp, Lib.hid (HY.out he), Lib.hid (below_drewN HB.out _)⟩, by simp [intOf]; omega⟩
          · have he : likeB s[k] f[k] = false := by rw [hb, beq_eq_false_iff_ne, ne_eq, u8_eq]; simp at hB; omega
            have hB' : ((f[k].toNat : Int) != s[k].toNat) = true := by simp at hB ⊢; omega
            go_wp2
            go_quiet (fail)
            go_wp2
            go_ret
            exact ⟨ret_bool (HN.out he).symm, below_drewN HB.out _⟩
        · have hb : likeB s[k] f[k] = isDigit s[k] := by unfold likeB; rw [if_pos]; exact (u8_lit _ 48 (by decide)).2 (by simpa using hA)
          rcases hP : isDigit s[k] with _ | _
          · rw [hP] at HC
            have he := hb.trans hP
            go_wp2_with (go_at_call 33; refine (HC.out _).mono ?_; rintro e w1 ⟨rfl, rfl⟩)
            go_ret
            exact ⟨ret_bool (HN.out he).symm, HB.out⟩
          · rw [hP] at HC
            have he := hb.trans hP
            go_wp2_with (go_at_call 33; refine (HC.out _).mono ?_; rintro e w1 ⟨rfl, rfl⟩)
            exact ⟨⟨k + 1, by omega, by simp, Lib.hid (HY.out he), HB⟩, by simp [intOf]; omega⟩
      · have h0 : ¬ (k : Int) < f.length := by omega
        have h1 : ¬ (k : Int) < s.length := by omega
        have hy := like_yes s f hne (fun j h1 h2 => HA.out j h1 h2 (by omega))
        have HY := Lib.hid hy
        clear hy
        go_wp2
        go_ret
        exact ⟨ret_bool HY.out.symm, HB.out⟩
  · have h9 : ((s.length : Int) != f.length) = true := by simp; omega
    have hF : likeL s f = false := by simp [likeL, hne]
    rw [hF]
    go_enter Try.func20, Try.ntmps20
    go_wp2
    go_ret
    exact ⟨rfl, Below.refl _ _⟩

set_option maxHeartbeats 1000000 in
set_option maxRecDepth 100000 in
theorem rlike_any (s f : List UInt8) (w : World) (hs : s.length ≤ 1000000000) (hf : f.length ≤ 1000000000) : Calls Try.prog 21 #[.string ⟨s.toArray⟩, .string ⟨f.toArray⟩] w fun e w' => e = .returned (.bool (likeL s f)) ∧ Below w.heap.size w w' := by
  by_cases hne : s.length = f.length
  · have h9 : ((s.length : Int) != f.length) = false := by simp; omega
    go_enter Try.func21, Try.ntmps21
    go_wp2
    go_loopw [5] (fun i wr => ∃ (k : Nat), k ≤ f.length ∧ i = .int .i64 k ∧ Hid (∀ j (h1 : j < s.length) (h2 : j < f.length), j < k → likeB s[j] f[j] = true) ∧ Hid (Below w.heap.size w wr)) (fun i _ => f.length - (intOf i).toNat)
    case atStart => exact ⟨0, by omega, rfl, Lib.hid (fun j _ _ h => absurd h (by omega)), Lib.hid (Below.refl _ _)⟩
    case round =>
      obtain ⟨k, hk, rfl, HA, HB⟩ := hrel
      by_cases hlt : k < f.length
      · have hks : k < s.length := by omega
        have h0 : (k : Int) < f.length := by omega
        have h1 : (k : Int) < s.length := by omega
        have HC := Lib.hid (fun w => rdigit_any s[k] w)
        have HN := Lib.hid (fun (h : likeB s[k] f[k] = false) => like_no s f k hks hlt h)
        have HY := Lib.hid (like_more s f k hks hlt HA.out)
        rcases hA : ((f[k].toNat : Int) == 48) with _ | _
        · have hb : likeB s[k] f[k] = (s[k] == f[k]) := by unfold likeB; rw [if_neg]; intro e; rw [e] at hA; simp at hA
          rcases hB : ((s[k].toNat : Int) != f[k].toNat) with _ | _
          · have he : likeB s[k] f[k] = true := by rw [hb, beq_iff_eq, u8_eq]; simp at hB; omega
            have hB' : ((f[k].toNat : Int) != s[k].toNat) = false := by simp at hB ⊢; omega
            go_wp2
            go_quiet (fail)
            go_wp2
            exact ⟨⟨k + 1, by omega, by simp, Lib.hid (HY.out he), Lib.hid (below_drewN HB.out _)⟩, by simp [intOf]; omega⟩
          · have he : likeB s[k] f[k] = false := by rw [hb, beq_eq_false_iff_ne, ne_eq, u8_eq]; simp at hB; omega
            have hB' : ((f[k].toNat : Int) != s[k].toNat) = true := by simp at hB ⊢; omega
            go_wp2
            go_quiet (fail)
            go_wp2
            go_ret
            exact ⟨ret_bool (HN.out he).symm, below_drewN HB.out _⟩
        · have hb : likeB s[k] f[k] = isDigit s[k] := by unfold likeB; rw [if_pos]; exact (u8_lit _ 48 (by decide)).2 (by simpa using hA)
          rcases hP : isDigit s[k] with _ | _
          · rw [hP] at HC
            have he := hb.trans hP
            go_wp2_with (go_at_call 34; refine (HC.out _).mono ?_; rintro e w1 ⟨rfl, rfl⟩)
            go_ret
            exact ⟨ret_bool (HN.out he).symm, HB.out⟩
          · rw [hP] at HC
            have he := hb.trans hP
            go_wp2_with (go_at_call 34; refine (HC.out _).mono ?_; rintro e w1 ⟨rfl, rfl⟩)
            exact ⟨⟨k + 1, by omega, by simp, Lib.hid (HY.out he), HB⟩, by simp [intOf]; omega⟩
      · have h0 : ¬ (k : Int) < f.length := by omega
        have h1 : ¬ (k : Int) < s.length := by omega
        have hy := like_yes s f hne (fun j h1 h2 => HA.out j h1 h2 (by omega))
        have HY := Lib.hid hy
        clear hy
        go_wp2
        go_ret
        exact ⟨ret_bool HY.out.symm, HB.out⟩
  · have h9 : ((s.length : Int) != f.length) = true := by simp; omega
    have hF : likeL s f = false := by simp [likeL, hne]
    rw [hF]
    go_enter Try.func21, Try.ntmps21
    go_wp2
    go_ret
    exact ⟨rfl, Below.refl _ _⟩
end Go.Proofs.Ytemiegbgnpcbiaa
