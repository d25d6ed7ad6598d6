/- Songs (lrc): Moment, moment, walked. | Scripts (ssa): section, keyed, walked. | Scripts (ssa): what stood, in memory; strings.Split, SplitN, Trim as they are called. | Scripts (ssa): format, walked. -/
import Derived.Test.YtndpcphmndfajaaGreatDoorZLc1

namespace Go.Proofs.YtndpcphmndfajaaGreatDoor
open Go.RowKit
set_option linter.unusedVariables false
set_option linter.unusedSimpArgs false

set_option maxHeartbeats 1000000 in
set_option maxRecDepth 100000 in
theorem Moment_any (s : List UInt8) (w : World) (hs : s.length ≤ 1000000000) : Calls Tryz.prog 327 #[.string ⟨s.toArray⟩] w fun e w' => e = .returned (.bool (momentT s)) ∧ Below w.heap.size w w' := by
  have H1 : Hid (∀ w : World, Calls Tryz.prog 84 #[.string ⟨s.toArray⟩, .string ⟨#[48, 48, 58, 48, 48]⟩] w fun e w' => e = .returned (.bool (likeL s minL)) ∧ Below w.heap.size w w') := Lib.hid (fun w => like_any s minL w hs (by decide))
  have H2 : Hid (∀ w : World, Calls Tryz.prog 84 #[.string ⟨s.toArray⟩, .string ⟨#[48, 48, 58, 48, 48, 46, 48, 48]⟩] w fun e w' => e = .returned (.bool (likeL s hunL)) ∧ Below w.heap.size w w') := Lib.hid (fun w => like_any s hunL w hs (by decide))
  have H3 : Hid (∀ w : World, Calls Tryz.prog 84 #[.string ⟨s.toArray⟩, .string ⟨#[48, 48, 58, 48, 48, 46, 48, 48, 48]⟩] w fun e w' => e = .returned (.bool (likeL s thoL)) ∧ Below w.heap.size w w') := Lib.hid (fun w => like_any s thoL w hs (by decide))
  unfold momentT
  generalize likeL s minL = b1 at *
  generalize likeL s hunL = b2 at *
  generalize likeL s thoL = b3 at *
  rcases b1 with _ | _
  · rcases b2 with _ | _
    · go_enter Tryz.func327, Tryz.ntmps327
      go_wp2_with (first | (go_at_call 84; with_reducible refine (H1.out _).mono ?_; rintro e w1 ⟨rfl, hb1⟩) | (go_at_call 84; with_reducible refine (H2.out _).mono ?_; rintro e w2 ⟨rfl, hb2⟩) | (go_at_call 84; refine (H3.out _).mono ?_; rintro e w3 ⟨rfl, hb3⟩))
      go_ret
      exact ⟨rfl, nextB (nextB hb1 hb2) hb3⟩
    · go_enter Tryz.func327, Tryz.ntmps327
      go_wp2_with (first | (go_at_call 84; with_reducible refine (H1.out _).mono ?_; rintro e w1 ⟨rfl, hb1⟩) | (go_at_call 84; refine (H2.out _).mono ?_; rintro e w2 ⟨rfl, hb2⟩))
      go_ret
      exact ⟨rfl, nextB hb1 hb2⟩
  · go_enter Tryz.func327, Tryz.ntmps327
    go_wp2_with (go_at_call 84; refine (H1.out _).mono ?_; rintro e w1 ⟨rfl, hb1⟩)
    go_ret
    exact ⟨rfl, hb1⟩
theorem pre_one (s : List UInt8) (c : UInt8) : Lib.hasPrefix s [c] = (s[0]? == some c) := by
  cases s with
  | nil => rfl
  | cons x r => simp [Lib.hasPrefix, List.isPrefixOf]; rw [Bool.eq_iff_iff, beq_iff_eq, beq_iff_eq, eq_comm]
theorem pre_any (s : List UInt8) (c : UInt8) (w : World) : Calls Tryz.prog 28 #[.string ⟨s.toArray⟩, .string ⟨#[c]⟩] w fun e w' => e = .returned (.bool (s[0]? == some c)) ∧ w = w' :=
  (Tryz.strings_HasPrefix ⟨s.toArray⟩ ⟨#[c]⟩ w).mono fun e w' ⟨h1, h2⟩ => ⟨by rw [h1, ← pre_one], h2.symm⟩
def firI (c : UInt8) (s : List UInt8) : Int := match firstB c s with
  | none => -1
  | some k => (k : Int)
theorem fir_any (s : List UInt8) (c : UInt8) (w : World) : Calls Tryz.prog 326 #[.string ⟨s.toArray⟩, .string ⟨#[c]⟩] w fun e w' => e = .returned (.int .i64 (firI c s)) ∧ w = w' :=
  (Tryz.strings_Index_one ⟨s.toArray⟩ c w).mono fun e w' ⟨h1, h2⟩ => ⟨by rw [h1]; show Ending.returned (.int .i64 (Lib.indexByte s c)) = _; rw [indexByte_firstB]; rfl, h2.symm⟩
set_option maxHeartbeats 1000000 in
set_option maxRecDepth 100000 in
theorem moment_any (s : List UInt8) (w : World) (hs : s.length ≤ 1000000) : Calls Tryz.prog 279 #[.string ⟨s.toArray⟩] w fun e w' => e = .returned (.int .i64 (momN s)) ∧ Below w.heap.size w w' := by
  have HP := Lib.hid (fun w => pre_any s 91 w)
  by_cases h0 : s[0]? = some 91
  · have hp : (s[0]? == some 91) = true := by simpa using h0
    rw [hp] at HP
    have HI := Lib.hid (fun w => fir_any (s.take 11) 93 w)
    have hm : momN s = match firstB 93 (s.take 11) with
      | none => 0
      | some n => if momentT ((s.take n).drop 1) then n + 1 else 0 := by unfold momN; rw [if_pos h0]; rfl
    rw [hm]
    clear hm hp
    unfold firI at HI
    have hlen : 0 < s.length := (List.getElem?_eq_some_iff.1 h0).1
    have key : ∀ q : Nat, (min (s.length : Int) 11 = (q : Int)) → s.take q = s.take 11 → q ≤ s.length → Calls Tryz.prog 279 #[.string ⟨s.toArray⟩] w fun e w' => e = .returned (.int .i64 ((match firstB 93 (s.take 11) with
      | none => 0
      | some n => if momentT ((s.take n).drop 1) then n + 1 else 0 : Nat) : Int)) ∧ Below w.heap.size w w' := by
      intro q hq hq2 hq3
      have hq4 : (q : Int) ≤ (s.length : Int) := by omega
      rcases hf : firstB 93 (s.take 11) with _ | n
      · rw [hf, ← hq2] at HI
        clear hf hq2
        go_enter Tryz.func279, Tryz.ntmps279
        go_wp2_with (first | (go_at_call 28; refine (HP.out _).mono ?_; rintro e w1 ⟨rfl, rfl⟩) | (go_at_call 326; refine (HI.out _).mono ?_; rintro e w1 ⟨rfl, rfl⟩))
        go_ret
        exact ⟨rfl, Below.refl _ _⟩
      · rw [hf, ← hq2] at HI
        have hn := firstB_lt _ _ _ hf
        have hnl : n < s.length := by have := hn.1; rw [List.length_take] at this; omega
        have hn1 : 1 ≤ n := by
          rcases n with _ | n
          · have h9 := hn.2
            rw [List.getElem?_take, if_pos (by omega), h0] at h9
            cases h9
          · omega
        have i1 : (1 : Int) ≤ (n : Int) := by omega
        have i2 : (n : Int) ≤ (s.length : Int) := by omega
        have i3 : ¬ ((n : Int) < 0) := by omega
        have HM : Hid (∀ w : World, Calls Tryz.prog 327 #[.string ⟨(s.tail.take (n - 1)).toArray⟩] w fun e w' => e = .returned (.bool (momentT ((s.take n).drop 1))) ∧ Below w.heap.size w w') := Lib.hid (fun w => by
          have h := Moment_any (s.tail.take (n - 1)) w (by rw [List.length_take, List.length_tail]; omega)
          have e9 : s.tail.take (n - 1) = (s.take n).drop 1 := by rw [List.drop_take, List.drop_one]
          rw [← e9]
          exact h)
        clear hn hf hq2
        rcases hM : momentT ((s.take n).drop 1) with _ | _
        · rw [hM] at HM
          simp only [hM, Bool.false_eq_true, if_false]
          clear hM
          go_enter Tryz.func279, Tryz.ntmps279
          go_wp2_with (first | (go_at_call 28; refine (HP.out _).mono ?_; rintro e w1 ⟨rfl, rfl⟩) | (go_at_call 326; refine (HI.out _).mono ?_; rintro e w1 ⟨rfl, rfl⟩) | (go_at_call 327; refine (HM.out _).mono ?_; rintro e w2 ⟨rfl, hb2⟩))
          go_ret
          exact ⟨rfl, hb2⟩
        · rw [hM] at HM
          simp only [hM, if_true]
          clear hM
          go_enter Tryz.func279, Tryz.ntmps279
          go_wp2_with (first | (go_at_call 28; refine (HP.out _).mono ?_; rintro e w1 ⟨rfl, rfl⟩) | (go_at_call 326; refine (HI.out _).mono ?_; rintro e w1 ⟨rfl, rfl⟩) | (go_at_call 327; refine (HM.out _).mono ?_; rintro e w2 ⟨rfl, hb2⟩))
          go_ret
          exact ⟨by simp, hb2⟩
    rcases Nat.lt_or_ge s.length 11 with hl | hl
    · exact key s.length (by omega) (by rw [List.take_of_length_le (Nat.le_refl _), List.take_of_length_le (by omega)]) (Nat.le_refl _)
    · exact key 11 (by omega) rfl hl
  · have hp : (s[0]? == some 91) = false := by simpa using h0
    rw [hp] at HP
    have hm : momN s = 0 := by unfold momN; rw [if_neg h0]
    rw [hm]
    clear hm hp h0
    go_enter Tryz.func279, Tryz.ntmps279
    go_wp2_with (go_at_call 28; refine (HP.out _).mono ?_; rintro e w1 ⟨rfl, rfl⟩)
    go_ret
    exact ⟨rfl, Below.refl _ _⟩
end Go.Proofs.YtndpcphmndfajaaGreatDoor

namespace Go.Proofs.YtndpcphmndfajaaGreatDoor
open Go.RowKit
set_option linter.unusedVariables false
set_option linter.unusedSimpArgs false

theorem idxb93_any (s : List UInt8) (w : World) : Calls Tryz.prog 256 #[.string ⟨s.toArray⟩, .int .u8 93] w fun e w' => e = .returned (.int .i64 (firI 93 s)) ∧ w = w' :=
  (Tryz.strings_IndexByte ⟨s.toArray⟩ 93 w).mono fun e w' ⟨h1, h2⟩ => ⟨by rw [h1]; show Ending.returned (.int .i64 (Lib.indexByte s 93)) = _; rw [indexByte_firstB]; rfl, h2.symm⟩
theorem idxb58_any (s : List UInt8) (w : World) : Calls Tryz.prog 256 #[.string ⟨s.toArray⟩, .int .u8 58] w fun e w' => e = .returned (.int .i64 (firI 58 s)) ∧ w = w' :=
  (Tryz.strings_IndexByte ⟨s.toArray⟩ 58 w).mono fun e w' ⟨h1, h2⟩ => ⟨by rw [h1]; show Ending.returned (.int .i64 (Lib.indexByte s 58)) = _; rw [indexByte_firstB]; rfl, h2.symm⟩
theorem secT_int (s : List UInt8) (h : 2 < s.length) (h0 : s[0]? = some 91) : secT s = (firI 93 s == (s.length : Int) - 1) := by
  unfold secT firI
  simp only [h, h0, decide_true, Bool.true_and, beq_self_eq_true]
  rcases hf : firstB 93 s with _ | k
  · have h1 : ((-1 : Int) == (s.length : Int) - 1) = false := by simp only [beq_eq_false_iff_ne, ne_eq]; omega
    rw [h1]
    rfl
  · have h2 : ((some k : Option Nat) == some (s.length - 1)) = (k == s.length - 1) := rfl
    rw [h2, Bool.eq_iff_iff, beq_iff_eq, beq_iff_eq]
    show k = s.length - 1 ↔ (k : Int) = (s.length : Int) - 1
    omega
set_option maxHeartbeats 1000000 in
set_option maxRecDepth 100000 in
theorem section_any (s : List UInt8) (w : World) (hs : s.length ≤ 1000000) : Calls Tryz.prog 275 #[.string ⟨s.toArray⟩] w fun e w' => e = .returned (.bool (secT s)) ∧ w = w' := by
  by_cases hl : 2 < s.length
  · have hli : (2 : Int) < (s.length : Int) := by omega
    have hp : 0 < s.length := by omega
    rcases hA : ((s[0].toNat : Int) == 91) with _ | _
    · have hT : secT s = false := by
        unfold secT
        rw [List.getElem?_eq_getElem hp]
        have : ((some s[0] : Option UInt8) == some 91) = false := by
          show (s[0] == 91) = false
          rw [beq_eq_false_iff_ne]; intro h; rw [h] at hA; simp at hA
        rw [this]
        simp
      rw [hT]
      clear hT
      go_enter Tryz.func275, Tryz.ntmps275
      go_wp2
      go_ret
      exact ⟨rfl, rfl⟩
    · have h91 : s[0] = 91 := (u8_lit _ 91 (by decide)).2 (by simpa using hA)
      have hT := secT_int s hl (by rw [List.getElem?_eq_getElem hp, h91])
      have HI := Lib.hid (fun w => idxb93_any s w)
      rw [hT]
      clear hT h91
      generalize firI 93 s = q at *
      go_enter Tryz.func275, Tryz.ntmps275
      go_wp2_with (go_at_call 256; refine (HI.out _).mono ?_; rintro e w1 ⟨rfl, rfl⟩)
      go_ret
      exact ⟨rfl, rfl⟩
  · have hli : ¬ (2 : Int) < (s.length : Int) := by omega
    have hT : secT s = false := by unfold secT; simp [hl]
    rw [hT]
    go_enter Tryz.func275, Tryz.ntmps275
    go_wp2
    go_ret
    exact ⟨rfl, rfl⟩
def kyV (o : Option Nat) : Value := match o with
  | none => .tuple #[.int .i64 0, .bool false]
  | some n => .tuple #[.int .i64 n, .bool true]
theorem key_in (c : UInt8) (lo hi : Nat) (b : Bool) (h1 : lo ≤ c.toNat) (h2 : c.toNat ≤ hi) (hk : ∀ n : Fin 256, lo ≤ n.val → n.val ≤ hi → keyB (UInt8.ofNat n.val) = b) : keyB c = b := by
  have := hk ⟨c.toNat, c.toNat_lt⟩ h1 h2
  rwa [show UInt8.ofNat c.toNat = c by simp] at this
theorem pre_colon (s : List UInt8) (n : Nat) (h : s[n]? = some 58) : Lib.hasPrefix (s.drop n) [58, 32] = (s[n + 1]? == some 32) := by
  have hl := (List.getElem?_eq_some_iff.1 h).1
  have e : s.drop n = 58 :: s.drop (n + 1) := by
    rw [List.drop_eq_getElem_cons hl]
    congr 1
    rw [List.getElem?_eq_getElem hl] at h
    exact Option.some.inj h
  have e2 : s[n + 1]? = (s.drop (n + 1))[0]? := by rw [List.getElem?_drop, Nat.add_zero]
  rw [e, e2]
  cases s.drop (n + 1) with
  | nil => rfl
  | cons x r => simp [Lib.hasPrefix, List.isPrefixOf] <;> first | (rw [Bool.eq_iff_iff, beq_iff_eq, beq_iff_eq]; exact eq_comm) | (rw [Bool.eq_iff_iff, beq_iff_eq, beq_iff_eq])
theorem pre2_any (s : List UInt8) (n : Nat) (h : s[n]? = some 58) (w : World) : Calls Tryz.prog 28 #[.string ⟨((s.drop n).take (s.length - n)).toArray⟩, .string ⟨#[58, 32]⟩] w fun e w' => e = .returned (.bool (s[n + 1]? == some 32)) ∧ w = w' :=
  (Tryz.strings_HasPrefix ⟨((s.drop n).take (s.length - n)).toArray⟩ ⟨#[58, 32]⟩ w).mono fun e w' ⟨h1, h2⟩ => ⟨by
    rw [h1]
    show Ending.returned (.bool (Lib.hasPrefix ((s.drop n).take (s.length - n)) [58, 32])) = _
    rw [drop_all, pre_colon s n h], h2.symm⟩

set_option maxHeartbeats 4000000 in
set_option maxRecDepth 100000 in
theorem keyed_any (s : List UInt8) (w : World) (hs : s.length ≤ 1000000) : Calls Tryz.prog 276 #[.string ⟨s.toArray⟩] w fun e w' => e = .returned (kyV (keyedT s)) ∧ w = w' := by
  have HI := Lib.hid (fun w => idxb58_any s w)
  unfold firI at HI
  have h0 : keyedT s = match firstB 58 s with
    | none => none
    | some n => if n = 0 then none else if s[0]? = some 32 then none else if s[n + 1]? = some 32 then (if (s.take n).all keyB then some n else none) else none := rfl
  rcases hf : firstB 58 s with _ | n
  · rw [hf] at HI h0
    rw [h0]
    clear h0 hf
    go_enter Tryz.func276, Tryz.ntmps276
    go_wp2_with (go_at_call 256; refine (HI.out _).mono ?_; rintro e w1 ⟨rfl, rfl⟩)
    go_ret2
    exact ⟨rfl, rfl⟩
  obtain ⟨hnl, hn58⟩ := firstB_lt _ _ _ hf
  rw [hf] at HI h0
  simp only at h0
  clear hf
  have HPX := Lib.hid (fun w => pre2_any s n hn58 w)
  clear hn58
  rcases n with _ | m
  · rw [if_pos rfl] at h0
    rw [h0]
    clear h0
    go_enter Tryz.func276, Tryz.ntmps276
    go_wp2_with (go_at_call 256; refine (HI.out _).mono ?_; rintro e w1 ⟨rfl, rfl⟩)
    go_ret2
    exact ⟨rfl, rfl⟩
  rw [if_neg (Nat.succ_ne_zero m)] at h0
  obtain ⟨n, hn⟩ : ∃ n, n = m + 1 := ⟨_, rfl⟩
  rw [← hn] at h0 HI HPX hnl
  have hn1 : 1 ≤ n := by omega
  clear hn
  have i1 : ¬ (n : Int) < 1 := by omega
  have i1b : decide ((n : Int) < 1) = false := by simp; omega
  have i1c : ((n : Int) < 1) = False := by simp; omega
  have i2 : (n : Int) ≤ (s.length : Int) := by omega
  have hp : 0 < s.length := by omega
  have hpi : (0 : Int) < (s.length : Int) := by omega
  have g0 : (s[0]? = some 32) = (((s[0].toNat : Int) == 32) = true) := by
    rw [List.getElem?_eq_getElem hp]
    have := u8_lit s[0] 32 (by decide)
    simp only [Option.some.injEq, beq_iff_eq]
    exact propext this
  rcases hA : ((s[0].toNat : Int) == 32) with _ | _
  · rw [if_neg (by rw [g0, hA]; simp)] at h0
    clear g0
    rcases hB : (s[n + 1]? == some 32) with _ | _
    · rw [hB] at HPX
      rw [if_neg (by intro h; rw [h] at hB; simp at hB)] at h0
      rw [h0]
      clear h0 hB
      go_enter Tryz.func276, Tryz.ntmps276
      go_wp2_with (first | (go_at_call 256; refine (HI.out _).mono ?_; rintro e w1 ⟨rfl, rfl⟩) | (go_at_call 28; refine (HPX.out _).mono ?_; rintro e w2 ⟨rfl, rfl⟩))
      go_ret2
      exact ⟨rfl, rfl⟩
    · rw [hB] at HPX
      rw [if_pos (by simpa using hB)] at h0
      have HZ := Lib.hid h0
      clear h0 hB
      go_enter Tryz.func276, Tryz.ntmps276
      go_upto_region 5 with (first | (go_at_call 256; refine (HI.out _).mono ?_; rintro e w1 ⟨rfl, rfl⟩) | (go_at_call 28; refine (HPX.out _).mono ?_; rintro e w2 ⟨rfl, rfl⟩))
      clear HI HPX
      go_loopw [26] (fun i wr => ∃ (k : Nat), k ≤ n ∧ i = .int .i64 k ∧ Hid (∀ i (hi : i < s.length), i < k → keyB s[i] = true) ∧ Hid (wr = w)) (fun i _ => n - (intOf i).toNat)
      case atStart => exact ⟨0, by omega, rfl, Lib.hid (fun i _ h1 => absurd h1 (by omega)), Lib.hid rfl⟩
      case round =>
        obtain ⟨k, hk, rfl, HK, HW⟩ := hrel
        by_cases hlt : k < n
        · have q0 : (k : Int) < (n : Int) := by omega
          have hks : k < s.length := by omega
          have q1 : (k : Int) < (s.length : Int) := by omega
          have hby := byte_le s[k]
          have stop : keyB s[k] = false → keyedT s = none := fun h => by
            rw [HZ.out, if_neg]
            rw [List.all_eq_true]
            intro h9
            have := h9 s[k] (by rw [List.mem_take_iff_getElem]; exact ⟨k, by omega, rfl⟩)
            rw [h] at this
            cases this
          have next : keyB s[k] = true → ∀ i (hi : i < s.length), i < k + 1 → keyB s[i] = true := fun h i hi h1 => by
            by_cases hik : i < k
            · exact HK.out i hi hik
            · obtain rfl : i = k := by omega
              exact h
          have hkind : (0 ≤ s[k].toNat ∧ s[k].toNat ≤ 31) ∨ (32 ≤ s[k].toNat ∧ s[k].toNat ≤ 32) ∨ (33 ≤ s[k].toNat ∧ s[k].toNat ≤ 47) ∨ (48 ≤ s[k].toNat ∧ s[k].toNat ≤ 57) ∨ (58 ≤ s[k].toNat ∧ s[k].toNat ≤ 64) ∨ (65 ≤ s[k].toNat ∧ s[k].toNat ≤ 90) ∨ (91 ≤ s[k].toNat ∧ s[k].toNat ≤ 96) ∨ (97 ≤ s[k].toNat ∧ s[k].toNat ≤ 122) ∨ (123 ≤ s[k].toNat ∧ s[k].toNat ≤ 255) := by omega
          rcases hkind with hkd | hkd | hkd | hkd | hkd | hkd | hkd | hkd | hkd
          · have hkb : keyB s[k] = false := key_in s[k] 0 31 _ hkd.1 hkd.2 (by decide)
            have f0 : ¬ (65 : Int) ≤ (s[k].toNat : Int) := by omega
            have f1 : ¬ (97 : Int) ≤ (s[k].toNat : Int) := by omega
            have f2 : (s[k].toNat : Int) ≤ 90 := by omega
            have f3 : (s[k].toNat : Int) ≤ 122 := by omega
            have f4 : (s[k].toNat : Int) < 48 := by omega
            have f5 : ¬ (57 : Int) < (s[k].toNat : Int) := by omega
            have f9 : ((s[k].toNat : Int) != 32) = true := by simp; omega
            have HS := Lib.hid (stop hkb)
            clear stop next hkb hkd
            go_wp2
            go_ret2
            rw [HS.out]
            exact ⟨rfl, HW.out.symm⟩
          · have hkb : keyB s[k] = true := key_in s[k] 32 32 _ hkd.1 hkd.2 (by decide)
            have f0 : ¬ (65 : Int) ≤ (s[k].toNat : Int) := by omega
            have f1 : ¬ (97 : Int) ≤ (s[k].toNat : Int) := by omega
            have f2 : (s[k].toNat : Int) ≤ 90 := by omega
            have f3 : (s[k].toNat : Int) ≤ 122 := by omega
            have f4 : (s[k].toNat : Int) < 48 := by omega
            have f5 : ¬ (57 : Int) < (s[k].toNat : Int) := by omega
            have f9 : ((s[k].toNat : Int) != 32) = false := by simp; omega
            have HN2 := Lib.hid (next hkb)
            clear stop next hkb hkd
            go_wp2
            exact ⟨⟨k + 1, by omega, by simp, HN2, HW⟩, by simp [intOf]; omega⟩
          · have hkb : keyB s[k] = false := key_in s[k] 33 47 _ hkd.1 hkd.2 (by decide)
            have f0 : ¬ (65 : Int) ≤ (s[k].toNat : Int) := by omega
            have f1 : ¬ (97 : Int) ≤ (s[k].toNat : Int) := by omega
            have f2 : (s[k].toNat : Int) ≤ 90 := by omega
            have f3 : (s[k].toNat : Int) ≤ 122 := by omega
            have f4 : (s[k].toNat : Int) < 48 := by omega
            have f5 : ¬ (57 : Int) < (s[k].toNat : Int) := by omega
            have f9 : ((s[k].toNat : Int) != 32) = true := by simp; omega
            have HS := Lib.hid (stop hkb)
            clear stop next hkb hkd
            go_wp2
            go_ret2
            rw [HS.out]
            exact ⟨rfl, HW.out.symm⟩
          · have hkb : keyB s[k] = true := key_in s[k] 48 57 _ hkd.1 hkd.2 (by decide)
            have f0 : ¬ (65 : Int) ≤ (s[k].toNat : Int) := by omega
            have f1 : ¬ (97 : Int) ≤ (s[k].toNat : Int) := by omega
            have f2 : (s[k].toNat : Int) ≤ 90 := by omega
            have f3 : (s[k].toNat : Int) ≤ 122 := by omega
            have f4 : ¬ (s[k].toNat : Int) < 48 := by omega
            have f5 : ¬ (57 : Int) < (s[k].toNat : Int) := by omega
            have f9 : ((s[k].toNat : Int) != 32) = true := by simp; omega
            have HN2 := Lib.hid (next hkb)
            clear stop next hkb hkd
            go_wp2
            exact ⟨⟨k + 1, by omega, by simp, HN2, HW⟩, by simp [intOf]; omega⟩
          · have hkb : keyB s[k] = false := key_in s[k] 58 64 _ hkd.1 hkd.2 (by decide)
            have f0 : ¬ (65 : Int) ≤ (s[k].toNat : Int) := by omega
            have f1 : ¬ (97 : Int) ≤ (s[k].toNat : Int) := by omega
            have f2 : (s[k].toNat : Int) ≤ 90 := by omega
            have f3 : (s[k].toNat : Int) ≤ 122 := by omega
            have f4 : ¬ (s[k].toNat : Int) < 48 := by omega
            have f5 : (57 : Int) < (s[k].toNat : Int) := by omega
            have f9 : ((s[k].toNat : Int) != 32) = true := by simp; omega
            have HS := Lib.hid (stop hkb)
            clear stop next hkb hkd
            go_wp2
            go_ret2
            rw [HS.out]
            exact ⟨rfl, HW.out.symm⟩
          · have hkb : keyB s[k] = true := key_in s[k] 65 90 _ hkd.1 hkd.2 (by decide)
            have f0 : (65 : Int) ≤ (s[k].toNat : Int) := by omega
            have f1 : ¬ (97 : Int) ≤ (s[k].toNat : Int) := by omega
            have f2 : (s[k].toNat : Int) ≤ 90 := by omega
            have f3 : (s[k].toNat : Int) ≤ 122 := by omega
            have f4 : ¬ (s[k].toNat : Int) < 48 := by omega
            have f5 : (57 : Int) < (s[k].toNat : Int) := by omega
            have f9 : ((s[k].toNat : Int) != 32) = true := by simp; omega
            have HN2 := Lib.hid (next hkb)
            clear stop next hkb hkd
            go_wp2
            exact ⟨⟨k + 1, by omega, by simp, HN2, HW⟩, by simp [intOf]; omega⟩
          · have hkb : keyB s[k] = false := key_in s[k] 91 96 _ hkd.1 hkd.2 (by decide)
            have f0 : (65 : Int) ≤ (s[k].toNat : Int) := by omega
            have f1 : ¬ (97 : Int) ≤ (s[k].toNat : Int) := by omega
            have f2 : ¬ (s[k].toNat : Int) ≤ 90 := by omega
            have f3 : (s[k].toNat : Int) ≤ 122 := by omega
            have f4 : ¬ (s[k].toNat : Int) < 48 := by omega
            have f5 : (57 : Int) < (s[k].toNat : Int) := by omega
            have f9 : ((s[k].toNat : Int) != 32) = true := by simp; omega
            have HS := Lib.hid (stop hkb)
            clear stop next hkb hkd
            go_wp2
            go_ret2
            rw [HS.out]
            exact ⟨rfl, HW.out.symm⟩
          · have hkb : keyB s[k] = true := key_in s[k] 97 122 _ hkd.1 hkd.2 (by decide)
            have f0 : (65 : Int) ≤ (s[k].toNat : Int) := by omega
            have f1 : (97 : Int) ≤ (s[k].toNat : Int) := by omega
            have f2 : ¬ (s[k].toNat : Int) ≤ 90 := by omega
            have f3 : (s[k].toNat : Int) ≤ 122 := by omega
            have f4 : ¬ (s[k].toNat : Int) < 48 := by omega
            have f5 : (57 : Int) < (s[k].toNat : Int) := by omega
            have f9 : ((s[k].toNat : Int) != 32) = true := by simp; omega
            have HN2 := Lib.hid (next hkb)
            clear stop next hkb hkd
            go_wp2
            exact ⟨⟨k + 1, by omega, by simp, HN2, HW⟩, by simp [intOf]; omega⟩
          · have hkb : keyB s[k] = false := key_in s[k] 123 255 _ hkd.1 hkd.2 (by decide)
            have f0 : (65 : Int) ≤ (s[k].toNat : Int) := by omega
            have f1 : (97 : Int) ≤ (s[k].toNat : Int) := by omega
            have f2 : ¬ (s[k].toNat : Int) ≤ 90 := by omega
            have f3 : ¬ (s[k].toNat : Int) ≤ 122 := by omega
            have f4 : ¬ (s[k].toNat : Int) < 48 := by omega
            have f5 : (57 : Int) < (s[k].toNat : Int) := by omega
            have f9 : ((s[k].toNat : Int) != 32) = true := by simp; omega
            have HS := Lib.hid (stop hkb)
            clear stop next hkb hkd
            go_wp2
            go_ret2
            rw [HS.out]
            exact ⟨rfl, HW.out.symm⟩
        · have q0 : ¬ (k : Int) < (n : Int) := by omega
          have HS := Lib.hid (show keyedT s = some n by
            rw [HZ.out, if_pos]
            rw [List.all_eq_true]
            intro c hc
            obtain ⟨i, hi, rfl⟩ := List.mem_take_iff_getElem.1 hc
            exact HK.out i (by omega) (by omega))
          go_wp2
          go_ret2
          rw [HS.out]
          exact ⟨rfl, HW.out.symm⟩
  · rw [if_pos (by rw [g0, hA])] at h0
    rw [h0]
    clear h0 g0
    go_enter Tryz.func276, Tryz.ntmps276
    go_wp2_with (go_at_call 256; refine (HI.out _).mono ?_; rintro e w1 ⟨rfl, rfl⟩)
    go_ret2
    exact ⟨rfl, rfl⟩
end Go.Proofs.YtndpcphmndfajaaGreatDoor

namespace Go.Proofs.YtndpcphmndfajaaGreatDoor
open Go.RowKit
set_option linter.unusedVariables false
set_option linter.unusedSimpArgs false

theorem cells_split (k : Nat) (v : List UInt8) : (Lib.splitB ⟨#[44]⟩ 0 k ⟨v.toArray⟩).map Value.string = strC (splitC k v) := by
  have h := Lib.splitB_data ⟨#[44]⟩ 0 k ⟨v.toArray⟩
  have h2 : (Lib.splitB ⟨#[44]⟩ 0 k ⟨v.toArray⟩).map (·.data.toList) = splitC k v := by
    rw [h, ← splitK_splitC k v]
  rw [← h2]
  unfold strC
  rw [List.map_map]
  apply List.map_congr_left
  intro b _
  simp
theorem count_comma (v : List UInt8) : Lib.countB ⟨v.toArray⟩ ⟨#[44]⟩ = v.count 44 := by
  show Lib.count v [44] = _
  exact Lib.count_one 44 v
theorem splitC_full (v : List UInt8) : (splitC (v.count 44) v).length = v.count 44 + 1 := by
  have h := Lib.splitB_all ⟨#[44]⟩ (by decide) 0 (v.count 44) ⟨v.toArray⟩ (count_comma v)
  have h2 := congrArg List.length (cells_split (v.count 44) v)
  rw [List.length_map, h] at h2
  unfold strC at h2
  rw [List.length_map] at h2
  exact h2.symm

/-- the machine's MaxLen lies where it lay -/
def T3 (w : World) : Prop := ∃ cs m, w.heap[3]? = some (.cells cs 3 (0, 0)) ∧ cs[0]? = some (.int .i64 m)
theorem T3.cell {w : World} (h : T3 w) : ∃ m, w.cell? ⟨3, 0, none⟩ = some (.int .i64 m) := by
  obtain ⟨cs, m, h1, h2⟩ := h
  exact ⟨m, (cell_at h1).trans h2⟩
theorem T3.lt {w : World} (h : T3 w) : 3 < w.heap.size := by
  obtain ⟨cs, m, h1, h2⟩ := h
  exact (Array.getElem?_eq_some_iff.1 h1).1
theorem T3.of {w w' : World} (h : T3 w) (hb : w'.heap[3]? = w.heap[3]?) : T3 w' := by
  obtain ⟨cs, m, h1, h2⟩ := h
  exact ⟨cs, m, hb.trans h1, h2⟩
theorem T3.below {w w' : World} (h : T3 w) (hb : Below w.heap.size w w') : T3 w' := h.of (hb.block 3 h.lt)

theorem split_any (v : List UInt8) (w : World) (h : T3 w) (hl : v.length ≤ 1000000) : Calls Tryz.prog 324 #[.string ⟨v.toArray⟩, .string ⟨#[44]⟩] w fun e w' =>
    e = .returned (.slice (some ⟨w.heap.size, 0, none⟩) (splitC (v.count 44) v).length (splitC (v.count 44) v).length) ∧ w' = w.alloc (.cells (strC (splitC (v.count 44) v)).toArray 9) := by
  obtain ⟨m, hm⟩ := h.cell
  refine (Tryz.strings_Split ⟨v.toArray⟩ ⟨#[44]⟩ m w (by show v.toArray.size < _; rw [List.size_toArray]; omega) hm (by decide)).mono fun e w' ⟨h1, h2⟩ => ?_
  rw [count_comma, cells_split] at h2
  rw [count_comma] at h1
  rw [splitC_full]
  exact ⟨h1, h2⟩
theorem splitN_any (v : List UInt8) (n : Nat) (w : World) (h : T3 w) (hl : v.length ≤ 1000000) (hn : 1 ≤ n) (hn2 : n ≤ 1000001) : Calls Tryz.prog 325 #[.string ⟨v.toArray⟩, .string ⟨#[44]⟩, .int .i64 n] w fun e w' =>
    ∃ X, e = .returned (.slice (some ⟨w.heap.size, 0, none⟩) (splitC (min n (v.length + 1) - 1) v).length (min n (v.length + 1))) ∧ w' = w.alloc (.cells (strC (splitC (min n (v.length + 1) - 1) v) ++ X).toArray 9) := by
  obtain ⟨m, hm⟩ := h.cell
  have hsz : (⟨v.toArray⟩ : ByteArray).size = v.length := by show v.toArray.size = _; rw [List.size_toArray]
  refine (Tryz.strings_SplitN ⟨v.toArray⟩ ⟨#[44]⟩ n m w (by rw [hsz]; omega) hm (by decide) hn (by omega)).mono fun e w' ⟨h1, h2⟩ => ?_
  rw [hsz] at h1 h2
  unfold Lib.cellsOf at h2
  rw [cells_split] at h2
  have e1 : (Lib.splitB ⟨#[44]⟩ 0 (min n (v.length + 1) - 1) ⟨v.toArray⟩).length = (splitC (min n (v.length + 1) - 1) v).length := by
    have := congrArg List.length (cells_split (min n (v.length + 1) - 1) v)
    unfold strC at this
    rw [List.length_map, List.length_map] at this
    exact this
  rw [e1] at h1
  exact ⟨_, h1, h2⟩
theorem trim_any (f : List UInt8) (w : World) (hl : f.length ≤ 1000000) : Calls Tryz.prog 86 #[.string ⟨f.toArray⟩, .string ⟨#[32]⟩] w fun e w' => e = .returned (.string ⟨(Lib.trimB f 32).toArray⟩) ∧ ∃ n, w' = w.drewN n :=
  (Tryz.strings_Trim_one ⟨f.toArray⟩ 32 (by decide) w (by show f.toArray.size ≤ _; rw [List.size_toArray]; omega)).mono fun e w' ⟨h1, h2⟩ => ⟨h1, by rcases h2 with rfl | rfl; exact ⟨0, rfl⟩; exact ⟨1, rfl⟩⟩

/-- what stood: a script's cells, and its fields' -/
def ScAt (b : Nat) (c : Sc) (w : World) : Prop := ∃ v, w.heap[b]? = some (.cells #[.bool c.ev, .bool c.told, v] 259 (0, 0)) ∧
  ((c.told = false ∧ c.fs = [] ∧ v = .slice none 0 0) ∨ (c.told = true ∧ 1 ≤ c.fs.length ∧ c.fs.length ≤ 1000001 ∧ ∃ g, v = .slice (some ⟨g, 0, none⟩) c.fs.length c.fs.length ∧ w.heap[g]? = some (.cells (strC c.fs).toArray 9 (0, 0))))
theorem ScAt.lt {b : Nat} {c : Sc} {w : World} (h : ScAt b c w) : b < w.heap.size := by
  obtain ⟨v, h1, _⟩ := h
  exact (Array.getElem?_eq_some_iff.1 h1).1
theorem ScAt.of {b : Nat} {c : Sc} {w w' : World} (h : ScAt b c w) (hk : ∀ (k : Nat) (C : Array Value) (T : TypeId), w.heap[k]? = some (.cells C T (0, 0)) → T = 259 ∨ T = 9 → w'.heap[k]? = w.heap[k]?) : ScAt b c w' := by
  obtain ⟨v, h1, h2⟩ := h
  refine ⟨v, (hk _ _ _ h1 (.inl rfl)).trans h1, ?_⟩
  rcases h2 with h2 | ⟨a1, a2, a3, g, a4, a5⟩
  · exact .inl h2
  · exact .inr ⟨a1, a2, a3, g, a4, (hk _ _ _ a5 (.inr rfl)).trans a5⟩
theorem ScAt.below {b : Nat} {c : Sc} {w w' : World} (h : ScAt b c w) (hb : Below w.heap.size w w') : ScAt b c w' :=
  h.of fun k C T hk _ => hb.block k (Array.getElem?_eq_some_iff.1 hk).1
/-- a teller's state -/
def ScI (b : Nat) (c : Sc) (w : World) : Prop := ScAt b c w ∧ T3 w
theorem ScI.below {b : Nat} {c : Sc} {w w' : World} (h : ScI b c w) (hb : Below w.heap.size w w') : ScI b c w' := ⟨h.1.below hb, h.2.below hb⟩
theorem ScI.grown {b : Nat} {c : Sc} {w w' : World} {row : Option Nat} (h : ScI b c w) (hg : w.grownBy w' row) (hr : ∀ b, row = some b → ∃ C fr, w.heap[b]? = some (.cells C 135 fr)) : ScI b c w' := by
  have key : ∀ (k : Nat) (C : Array Value) (T : TypeId), w.heap[k]? = some (.cells C T (0, 0)) → T ≠ 135 → w'.heap[k]? = w.heap[k]? := fun k C T hk hT => by
    refine hg.block k (Array.getElem?_eq_some_iff.1 hk).1 fun e => ?_
    obtain ⟨C2, fr, h2⟩ := hr k e.symm
    rw [hk] at h2
    cases h2
    exact hT rfl
  refine ⟨h.1.of fun k C T hk hT => key k C T hk (by rcases hT with rfl | rfl <;> decide), ?_⟩
  obtain ⟨cs, m, h1, _⟩ := h.2
  exact h.2.of (key _ _ _ h1 (by decide))
end Go.Proofs.YtndpcphmndfajaaGreatDoor

namespace Go.Proofs.YtndpcphmndfajaaGreatDoor
open Go.RowKit
set_option linter.unusedVariables false
set_option linter.unusedSimpArgs false

theorem splitC_le : ∀ (k : Nat) (s f : List UInt8), f ∈ splitC k s → f.length ≤ s.length
  | 0, s, f, h => by
    simp [splitC] at h
    subst h
    exact Nat.le_refl _
  | k + 1, s, f, h => by
    unfold splitC at h
    rcases hf : firstB 44 s with _ | i
    · rw [hf] at h
      simp at h
      subst h
      exact Nat.le_refl _
    · rw [hf] at h
      rcases List.mem_cons.1 h with rfl | h
      · rw [List.length_take]; omega
      · have := splitC_le k _ f h
        rw [List.length_drop] at this
        omega
def rowT (L : List (List UInt8)) (k : Nat) : List (List UInt8) := (L.take k).map (fun f => Lib.trimB f 32) ++ L.drop k
theorem rowT_zero (L : List (List UInt8)) : rowT L 0 = L := by simp [rowT]
theorem rowT_all (L : List (List UInt8)) : rowT L L.length = L.map (fun f => Lib.trimB f 32) := by simp [rowT]
theorem rowT_at (L : List (List UInt8)) (k : Nat) (h : k < L.length) : (strC (rowT L k))[k]? = some (.string ⟨L[k].toArray⟩) := by
  unfold strC rowT
  rw [List.getElem?_map, List.getElem?_append_right (by rw [List.length_map, List.length_take]; omega), List.length_map, List.length_take, Nat.min_eq_left (Nat.le_of_lt h), Nat.sub_self, List.getElem?_drop]
  simp [h]
theorem rowT_step (L : List (List UInt8)) (k : Nat) (h : k < L.length) : (strC (rowT L k)).toArray.setIfInBounds k (.string ⟨(Lib.trimB L[k] 32).toArray⟩) = (strC (rowT L (k + 1))).toArray := by
  apply Array.ext'
  rw [Array.toList_setIfInBounds]
  unfold strC rowT
  rw [List.take_succ_eq_append_getElem h, List.drop_eq_getElem_cons h]
  simp only [List.map_append, List.map_map, List.map_cons, List.map_nil, List.append_assoc, List.cons_append, List.nil_append]
  rw [List.set_append_right _ _ (by rw [List.length_map, List.length_take]; omega)]
  rw [List.length_map, List.length_take, Nat.min_eq_left (Nat.le_of_lt h), Nat.sub_self]
  rfl

theorem Away.setIn {S : Nat → Prop} {b j : Nat} {u w : World} (h : Away S u w) (hb : S b) (v : Value) : Away S u (w.setCell ⟨b, j, none⟩ v) :=
  ⟨h.os, h.tape, h.output, by simpa [World.setCell] using h.size, fun k hk h1 => (heap_set_other v (by intro e; subst e; exact h1 hb)).trans (h.block k hk h1)⟩
/-- what is kept while a row is trimmed -/
def FmAt (b g : Nat) (ev : Bool) (n : Nat) (R : List (List UInt8)) (w0 w : World) : Prop :=
  w.heap[b]? = some (.cells #[.bool ev, .bool true, .slice (some ⟨g, 0, none⟩) n n] 259 (0, 0)) ∧ w.heap[g]? = some (.cells (strC R).toArray 9 (0, 0)) ∧ T3 w ∧ Away (· = b) w0 w ∧ w0.heap.size ≤ g
theorem FmAt.step {b g n k m : Nat} {ev : Bool} {R R2 : List (List UInt8)} {w0 w : World} {u : Value} (h : FmAt b g ev n R w0 w) (hst : (strC R).toArray.setIfInBounds k u = (strC R2).toArray) : FmAt b g ev n R2 w0 ((w.drewN m).setCell ⟨g, k, none⟩ u) := by
  obtain ⟨h1, h2, h3, h4, h5⟩ := h
  have hbg : b ≠ g := by intro e; subst e; have e2 := congrArg (fun o => match o with | Obj.cells _ T _ => T | _ => 0) (Option.some.inj (h1.symm.trans h2)); exact absurd (show (259 : Nat) = 9 from e2) (by decide)
  have h3g : 3 ≠ g := by intro e; subst e; obtain ⟨cs, q, h6, _⟩ := h3; have e2 := congrArg (fun o => match o with | Obj.cells _ T _ => T | _ => 0) (Option.some.inj (h6.symm.trans h2)); exact absurd (show (3 : Nat) = 9 from e2) (by decide)
  refine ⟨(heap_set_other u hbg).trans h1, ?_, T3.of h3 (heap_set_other (w := w.drewN m) u h3g), ?_, h5⟩
  · rw [← hst]
    exact setCell_at (w := w.drewN m) h2
  · exact Away.setNew (w := w.drewN m) ⟨h4.os, h4.tape, h4.output, h4.size, h4.block⟩ h5 u
set_option maxHeartbeats 2000000 in
set_option maxRecDepth 100000 in
theorem format_any (b : Nat) (c : Sc) (v : List UInt8) (w : World) (h : ScI b c w) (hb3 : b ≠ 3) (hl : v.length ≤ 1000000) : Calls Tryz.prog 277 #[.pointer (some ⟨b, 0, none⟩), .string ⟨v.toArray⟩] w fun e w' =>
    e = .returned (.tuple #[]) ∧ ScI b ⟨c.ev, true, fieldsT v⟩ w' ∧ Away (· = b) w w' := by
  obtain ⟨⟨v0, hX, -⟩, hT⟩ := h
  have X := Lib.hid hX
  have TT := Lib.hid hT
  clear hX hT
  have CS := Lib.hid (fun w h => split_any v w h hl)
  have hn1 : (splitC (v.count 44) v).length ≤ 1000001 := by
    rw [splitC_full]
    have := List.count_le_length (a := (44 : UInt8)) (l := v)
    omega
  have hn0 : 1 ≤ (splitC (v.count 44) v).length := by rw [splitC_full]; omega
  have HLE := Lib.hid (fun f (hf : f ∈ splitC (v.count 44) v) => Nat.le_trans (splitC_le _ _ f hf) hl)
  have hF : fieldsT v = (splitC (v.count 44) v).map (fun f => Lib.trimB f 32) := rfl
  rw [hF]
  clear hF
  generalize splitC (v.count 44) v = L at *
  have hbl := (Array.getElem?_eq_some_iff.1 X.out).1
  obtain ⟨x0, x1, x2⟩ := cells3 (X.out); obtain ⟨xf0, xf1, xf2⟩ := frees3 (X.out)
  go_enter Tryz.func277, Tryz.ntmps277
  go_upto_region 1 with (fail)
  have X1 := Lib.hid (show (w.setCell ⟨b, 1, none⟩ (.bool true)).heap[b]? = some (.cells #[.bool c.ev, .bool true, v0] 259 (0, 0)) from setCell_at X.out)
  have T1 := Lib.hid (TT.out.of (heap_set_other (j := 1) (.bool true) (Ne.symm hb3)))
  have A1 := Lib.hid ((Away.refl (· = b) w).setIn (b := b) (j := 1) rfl (.bool true))
  clear x0 x1 x2 xf0 xf1 xf2 X TT
  generalize w.setCell ⟨b, 1, none⟩ (.bool true) = w1 at *
  obtain ⟨x0, x1, x2⟩ := cells3 (X1.out); obtain ⟨xf0, xf1, xf2⟩ := frees3 (X1.out)
  have hbl1 := (Array.getElem?_eq_some_iff.1 X1.out).1
  have hbne : b ≠ w1.heap.size := by omega
  have hsz := A1.out.size
  go_upto_region 2 with (go_at_call 324; refine (CS.out _ T1.out).mono ?_; rintro e w2 ⟨rfl, rfl⟩)
  have hz2 : (w1.setCell ⟨b, 2, none⟩ (.slice (some ⟨w1.heap.size, 0, none⟩) L.length L.length)).heap.size = w1.heap.size := by simp [World.setCell]
  have F := Lib.hid (show FmAt b w1.heap.size c.ev L.length L w ((w1.setCell ⟨b, 2, none⟩ (.slice (some ⟨w1.heap.size, 0, none⟩) L.length L.length)).alloc (.cells (strC L).toArray 9)) from
    ⟨(heap_alloc_old _ _ (by rw [hz2]; exact hbl1)).trans (setCell_at X1.out), by have h9 := at_a0 (w1.setCell ⟨b, 2, none⟩ (.slice (some ⟨w1.heap.size, 0, none⟩) L.length L.length)) (strC L).toArray 9; rw [hz2] at h9; exact h9, (T1.out.of (heap_set_other _ (Ne.symm hb3))).below ((Below.refl _ _).alloc (Nat.le_refl _) _), (A1.out.setIn (b := b) rfl _).trans (Away.alloc _ _), hsz⟩)
  clear hz2
  generalize (w1.setCell ⟨b, 2, none⟩ (.slice (some ⟨w1.heap.size, 0, none⟩) L.length L.length)).alloc (.cells (strC L).toArray 9) = w3 at *
  generalize w1.heap.size = g at *
  clear X1 T1 A1 x0 x1 x2 xf0 xf1 xf2 hbl1
  obtain ⟨x0, x1, x2⟩ := cells3 (F.out.1); obtain ⟨xf0, xf1, xf2⟩ := frees3 (F.out.1)
  go_wp2
  clear x0 x1 x2 xf0 xf1 xf2
  have F0 : Hid (FmAt b g c.ev L.length (rowT L 0) w w3) := by rw [rowT_zero]; exact F
  clear F
  go_loopw [19] (fun i wr => ∃ k : Nat, k ≤ L.length ∧ i = .int .i64 k ∧ Hid (FmAt b g c.ev L.length (rowT L k) w wr)) (fun i _ => L.length - (intOf i).toNat)
  case atStart => exact ⟨0, by omega, rfl, F0⟩
  case round =>
    obtain ⟨k, hk, rfl, F⟩ := hrel
    by_cases hlt : k < L.length
    · have q0 : (k : Int) < (L.length : Int) := by omega
      have hfl := HLE.out _ (List.getElem_mem hlt)
      have CT := Lib.hid (fun w => trim_any L[k] w hfl)
      have cg : wr.cell? ⟨g, k, none⟩ = some (.string ⟨L[k].toArray⟩) := (cell_at (j := k) F.out.2.1).trans (by rw [List.getElem?_toArray]; exact rowT_at L k hlt)
      have fg : wr.frozen? ⟨g, k, none⟩ = false := free_at F.out.2.1
      have hst := Lib.hid (rowT_step L k hlt)
      generalize L[k] = f at *
      obtain ⟨x0, x1, x2⟩ := cells3 (F.out.1); obtain ⟨xf0, xf1, xf2⟩ := frees3 (F.out.1)
      go_upto_region 5 with (fail)
      go_region_with (go_at_call 86; refine (CT.out _).mono ?_; rintro e w5 ⟨rfl, n5, rfl⟩)
      all_goals
        go_wp2
        exact ⟨⟨k + 1, by omega, by simp, Lib.hid (F.out.step hst.out)⟩, by simp [intOf]; omega⟩
    · have q0 : ¬ (k : Int) < (L.length : Int) := by omega
      obtain rfl : k = L.length := by omega
      have F9 := F.out
      rw [rowT_all] at F9
      go_wp2
      refine bodyPost_end (results_none rfl _ _ _) rfl ?_
      have e9 : (L.map (fun f => Lib.trimB f 32)).length = L.length := List.length_map _
      exact ⟨rfl, ⟨⟨_, F9.1, .inr ⟨rfl, by show 1 ≤ (L.map _).length; omega, by show (L.map _).length ≤ _; omega, g, by show _ = Value.slice _ (L.map _).length (L.map _).length; rw [e9], F9.2.1⟩⟩, F9.2.2.1⟩, F9.2.2.2.1⟩
end Go.Proofs.YtndpcphmndfajaaGreatDoor
