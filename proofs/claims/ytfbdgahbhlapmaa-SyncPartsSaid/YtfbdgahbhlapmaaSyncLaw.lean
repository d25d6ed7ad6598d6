/- The plain laws of layer 11, and the walks of its statements SyncBack and SyncParts. -/
import Derived.Test.YtfbdgahbhlapmaaSync
namespace Go.Proofs.Ytfbdgahbhlapmaa
open Go.RowKit

theorem put_at : ∀ (l : List UInt8) (i : Nat), (sndPut l)[i]? = some 255 → ∃ d, (sndPut l)[i + 1]? = some d ∧ d.toNat < 224
  | [], i, e => by simp [sndPut] at e
  | c :: t, i, e => by
    cases hs : snd (c :: t) with
    | true =>
      have hp : sndPut (c :: t) = c :: 0 :: sndPut t := by simp [sndPut, hs]
      rw [hp] at e ⊢
      match i, e with
      | 0, e => exact ⟨0, rfl, by decide⟩
      | 1, e => simp at e
      | j + 2, e => simpa using put_at t j (by simpa using e)
    | false =>
      have hp : sndPut (c :: t) = c :: sndPut t := by simp [sndPut, hs]
      rw [hp] at e ⊢
      match i, e with
      | 0, e =>
        simp only [List.getElem?_cons_zero, Option.some.injEq] at e
        subst e
        cases t with
        | nil => simp [snd] at hs
        | cons d t' =>
          simp only [snd, BEq.rfl, Bool.true_and, Bool.or_eq_false_iff, decide_eq_false_iff_not] at hs
          exact ⟨d, by simp [sndPut], by omega⟩
      | j + 1, e => simpa using put_at t j (by simpa using e)

theorem drop_put : ∀ (l : List UInt8) (ff : Bool), (ff = true → l.head? ≠ some 0) → sndDrop ff (sndPut l) = l
  | [], ff, _ => by simp [sndPut, sndDrop]
  | c :: t, ff, hf => by
    have h0 : (c == 0 && ff) = false := by
      cases ff with
      | false => simp
      | true =>
        have := hf rfl
        simp only [List.head?_cons, ne_eq, Option.some.injEq] at this
        simp [this]
    cases hs : snd (c :: t) with
    | true =>
      have hp : sndPut (c :: t) = c :: 0 :: sndPut t := by simp [sndPut, hs]
      have hc : c = 255 := by
        simp only [snd, Bool.and_eq_true, beq_iff_eq] at hs
        exact hs.1
      rw [hp, sndDrop, h0]
      subst hc
      have := drop_put t false (by simp)
      simp [sndDrop, this]
    | false =>
      have hp : sndPut (c :: t) = c :: sndPut t := by simp [sndPut, hs]
      rw [hp, sndDrop, h0]
      have := drop_put t (c == 255) (by
        intro hc
        rw [beq_iff_eq] at hc
        subst hc
        cases t with
        | nil => simp
        | cons d t' =>
          simp only [snd, BEq.rfl, Bool.true_and, Bool.or_eq_false_iff, beq_eq_false_iff_ne] at hs
          simpa using hs.1)
      simp [this]

theorem put_clean : ∀ (l : List UInt8), sndCnt l = 0 → sndPut l = l
  | [], _ => rfl
  | c :: t, h => by
    cases hs : snd (c :: t) with
    | true => simp [sndCnt, hs] at h
    | false =>
      simp [sndCnt, hs] at h
      simp [sndPut, hs, put_clean t h]

theorem snd_append (c : UInt8) (t b : List UInt8) (h : (c :: t).getLast? ≠ some 255) : snd (c :: (t ++ b)) = snd (c :: t) := by
  cases t with
  | nil =>
    simp only [List.getLast?_singleton, ne_eq, Option.some.injEq] at h
    simp [snd, h]
  | cons d t' => rfl
theorem last_tail (c : UInt8) (t : List UInt8) (h : (c :: t).getLast? ≠ some 255) : t.getLast? ≠ some 255 := by
  cases t with
  | nil => simp
  | cons d t' => simpa [List.getLast?_cons] using h

theorem put_append : ∀ (a b : List UInt8), a.getLast? ≠ some 255 → sndPut (a ++ b) = sndPut a ++ sndPut b
  | [], b, _ => rfl
  | c :: t, b, h => by
    have h1 := snd_append c t b h
    have h2 := put_append t b (last_tail c t h)
    cases hs : snd (c :: t) <;> simp [sndPut, h1, h2, hs]
theorem cnt_append : ∀ (a b : List UInt8), a.getLast? ≠ some 255 → sndCnt (a ++ b) = sndCnt a + sndCnt b
  | [], b, _ => by simp [sndCnt]
  | c :: t, b, h => by
    have h1 := snd_append c t b h
    have h2 := cnt_append t b (last_tail c t h)
    cases hs : snd (c :: t) <;> simp [sndCnt, h1, h2, hs]; omega
theorem drop_append : ∀ (a b : List UInt8) (ff : Bool), a.getLast? ≠ some 255 → (a = [] → ff = false) → sndDrop ff (a ++ b) = sndDrop ff a ++ sndDrop false b
  | [], b, ff, _, h => by rw [h rfl]; rfl
  | c :: t, b, ff, h, _ => by
    have h2 := drop_append t b (c == 255) (last_tail c t h) (by
      rintro rfl
      simpa using h)
    simp only [List.cons_append, sndDrop, h2]
    split <;> simp

theorem sndDrop_len : ∀ (l : List UInt8) (ff : Bool), (sndDrop ff l).length ≤ l.length
  | [], _ => Nat.le_refl _
  | c :: t, ff => by
    have := sndDrop_len t (c == 255)
    simp only [sndDrop]
    split <;> simp <;> omega

set_option maxHeartbeats 1000000 in
set_option maxRecDepth 100000 in
theorem walk_SyncBack (l : List UInt8) (hl : l.length ≤ maxLen) (w : World) :
    Calls Try.prog 4 #[.string ⟨l.toArray⟩] w fun e w' => e = .returned (.bool true) ∧ Below w.heap.size w w' := by
  unfold maxLen at hl
  by_cases hbig : 1000 < l.length
  · go_enter Try.func4, Try.ntmps4
    go_wp2_with (go_at_call 14; refine (awake11' _).mono ?_; rintro e w1 ⟨rfl, hb1⟩)
    go_ret
    exact ⟨rfl, hb1⟩
  · have hp := sndPut_len l
    have hc := sndCnt_le l
    have HA := Lib.hid (put_at l)
    have HD := Lib.hid (drop_put l false (by simp))
    have HC := Lib.hid (put_clean l)
    have HPA := Lib.hid (fun w => put_any l w (by omega))
    obtain ⟨s, hs⟩ : ∃ s, s = sndPut l := ⟨_, rfl⟩
    rw [← hs] at hp HA HD HC HPA
    clear hs
    have hsl : s.length ≤ 2000 := by omega
    clear hp hc
    go_enter Try.func4, Try.ntmps4
    go_wp2_with (go_at_call 17; refine (HPA.out _).mono ?_; rintro e w1 ⟨rfl, hb1⟩)
    go_loop [13] (fun i => ∃ k : Nat, k ≤ s.length ∧ i = .int .i64 k) (fun i => s.length - (intOf i).toNat)
    case atStart => exact ⟨0, Nat.zero_le _, rfl⟩
    case round =>
      obtain ⟨k, hk, rfl⟩ := hrel
      by_cases hlt : k < s.length
      · rcases hz : ((s[k].toNat : Int) == 255) with _ | _
        · go_wp2
          go_round
          case rel => exact ⟨k + 1, by omega, by go_num⟩
          case measure => simp [intOf]; omega
        · obtain ⟨d, h2, h3⟩ := HA.out k (by rw [List.getElem?_eq_getElem hlt, toNat_eq (c := s[k]) (d := 255) (by simpa using hz)])
          obtain ⟨h4, h5⟩ := List.getElem?_eq_some_iff.1 h2
          rw [← h5] at h3
          have H3 := Lib.hid h3
          clear h2 h5 h3
          have h7 : (k : Int) + 1 < (s.length : Int) := by omega
          go_wp2
          · have h6 : (224 : Int) ≤ (s[k + 1].toNat : Nat) := by assumption
            exact absurd h6 (by have := H3.out; omega)
          · go_round
            case rel => exact ⟨k + 1, by omega, by go_num⟩
            case measure => simp [intOf]; omega
      · rcases hcl : decide (sndCnt l = 0) with _ | _
        · go_wp2_with (first | (go_at_call 14; refine (awake11' _).mono ?_; rintro e w2 ⟨rfl, hb2⟩) | (go_at_call 19; refine (drop_any _ _ (by omega)).mono ?_; rw [HD.out]; rintro e w3 ⟨rfl, hb3⟩) | (go_at_call 16; refine (clean_any _ _ (by omega)).mono ?_; rw [hcl]; rintro e w' ⟨rfl, rfl⟩))
          go_ret
          exact ⟨rfl, awake_back _ _ _ hb3 (awake_back _ _ _ hb2 hb1)⟩
        · have hsl : s = l := HC.out (by simpa using hcl)
          subst hsl
          go_wp2_with (first | (go_at_call 14; refine (awake11' _).mono ?_; rintro e w2 ⟨rfl, hb2⟩) | (go_at_call 19; refine (drop_any _ _ (by omega)).mono ?_; rw [HD.out]; rintro e w3 ⟨rfl, hb3⟩) | (go_at_call 16; refine (clean_any _ _ (by omega)).mono ?_; rw [hcl]; rintro e w' ⟨rfl, rfl⟩))
          go_ret
          exact ⟨rfl, awake_back _ _ _ hb3 (awake_back _ _ _ hb2 hb1)⟩


set_option maxHeartbeats 1000000 in
set_option maxRecDepth 100000 in
theorem syncParts_out (a b : List UInt8) (ha : a.length ≤ maxLen) (hb : b.length ≤ maxLen) (w : World) (h : 500 < a.length ∨ 500 < b.length ∨ a.getLast? = some 255) :
    Calls Try.prog 5 #[.string ⟨a.toArray⟩, .string ⟨b.toArray⟩] w fun e w' => e = .returned (.bool true) ∧ Below w.heap.size w w' := by
  unfold maxLen at ha hb
  by_cases h1 : (500 : Int) < (a.length : Int)
  · clear h
    go_enter Try.func5, Try.ntmps5
    go_wp2_with (go_at_call 14; refine (awake11' _).mono ?_; rintro e w1 ⟨rfl, hb1⟩)
    go_ret
    exact ⟨rfl, hb1⟩
  · by_cases h2 : (500 : Int) < (b.length : Int)
    · clear h
      go_enter Try.func5, Try.ntmps5
      go_wp2_with (go_at_call 14; refine (awake11' _).mono ?_; rintro e w1 ⟨rfl, hb1⟩)
      go_ret
      exact ⟨rfl, hb1⟩
    · have h3 : a.getLast? = some 255 := by
        rcases h with h | h | h
        · omega
        · omega
        · exact h
      clear h
      have h4 : 0 < a.length := by
        cases a with
        | nil => simp at h3
        | cons c t => simp
      have h5 : (a.length : Int) - 1 < (a.length : Int) := by omega
      have h6 : ((a[a.length - 1]'(by omega)).toNat : Int) = 255 := by
        rw [List.getLast?_eq_getElem?, List.getElem?_eq_some_iff] at h3
        obtain ⟨h7, h8⟩ := h3
        rw [h8]; rfl
      have h8 : ((a.length : Int) - 1).toNat = a.length - 1 := by omega
      clear h3
      go_enter Try.func5, Try.ntmps5
      go_wp2_with (go_at_call 14; refine (awake11' _).mono ?_; rintro e w1 ⟨rfl, hb1⟩)
      go_ret
      exact ⟨rfl, hb1⟩

set_option maxHeartbeats 1000000 in
set_option maxRecDepth 100000 in
theorem syncParts_in (a b : List UInt8) (h1 : ¬ (500 : Int) < (a.length : Int)) (h2 : ¬ (500 : Int) < (b.length : Int)) (h3 : a.getLast? ≠ some 255) (w : World) :
    Calls Try.prog 5 #[.string ⟨a.toArray⟩, .string ⟨b.toArray⟩] w fun e w' => e = .returned (.bool true) ∧ Below w.heap.size w w' := by
  have hab : (a ++ b).length ≤ 1000 := by simp; omega
  have p1 := fun w => put_any (a ++ b) w (by omega)
  have d1 := fun w => drop_any (a ++ b) w (by omega)
  have x1 := fun w => extra_any (a ++ b) w (by omega)
  rw [put_append a b h3] at p1
  rw [drop_append a b false h3 (fun _ => rfl)] at d1
  rw [cnt_append a b h3] at x1
  have P1 := Lib.hid p1
  have D1 := Lib.hid d1
  have X1 := Lib.hid x1
  have P2 := Lib.hid (fun w => put_any a w (by omega))
  have P3 := Lib.hid (fun w => put_any b w (by omega))
  have D2 := Lib.hid (fun w => drop_any a w (by omega))
  have D3 := Lib.hid (fun w => drop_any b w (by omega))
  have X2 := Lib.hid (fun w => extra_any a w (by omega))
  have X3 := Lib.hid (fun w => extra_any b w (by omega))
  have hp1 : (sndPut a).length ≤ 1000 := by have := sndPut_len a; have := sndCnt_le a; omega
  have hp2 : (sndPut b).length ≤ 1000 := by have := sndPut_len b; have := sndCnt_le b; omega
  have hp3 : (sndDrop false a).length ≤ 1000 := by have := sndDrop_len a false; omega
  have hp4 : (sndDrop false b).length ≤ 1000 := by have := sndDrop_len b false; omega
  clear p1 d1 x1
  have hc1 := sndCnt_le a
  have hc2 := sndCnt_le b
  by_cases h4 : 0 < a.length
  · have h5 : (a.length : Int) - 1 < (a.length : Int) := by omega
    have h6 : ((a[a.length - 1]'(by omega)).toNat : Int) ≠ 255 := by
      intro e
      apply h3
      rw [List.getLast?_eq_getElem?, List.getElem?_eq_some_iff]
      exact ⟨by omega, toNat_eq (by simpa using e)⟩
    have h8 : ((a.length : Int) - 1).toNat = a.length - 1 := by omega
    clear h3
    go_enter Try.func5, Try.ntmps5
    go_wp2_with (first | (go_at_call 14; refine (awake11' _).mono ?_; rintro e w1 ⟨rfl, hb1⟩) | (go_at_call 17; ((with_reducible refine (P1.out _).mono ?_); rintro e w2 ⟨rfl, hb2⟩)) | (go_at_call 17; ((with_reducible refine (P2.out _).mono ?_); rintro e w3 ⟨rfl, hb3⟩)) | (go_at_call 17; ((with_reducible refine (P3.out _).mono ?_); rintro e w4 ⟨rfl, hb4⟩)) | (go_at_call 19; ((with_reducible refine (D1.out _).mono ?_); rintro e w5 ⟨rfl, hb5⟩)) | (go_at_call 19; ((with_reducible refine (D2.out _).mono ?_); rintro e w6 ⟨rfl, hb6⟩)) | (go_at_call 19; ((with_reducible refine (D3.out _).mono ?_); rintro e w7 ⟨rfl, hb7⟩)) | (go_at_call 21; ((with_reducible refine (X1.out _).mono ?_); rintro e w8 ⟨rfl, rfl⟩)) | (go_at_call 21; ((with_reducible refine (X2.out _).mono ?_); rintro e w8 ⟨rfl, rfl⟩)) | (go_at_call 21; ((with_reducible refine (X3.out _).mono ?_); rintro e w8 ⟨rfl, rfl⟩)))
    go_ret
    exact ⟨rfl, nextB (nextB (nextB (nextB (nextB (nextB hb1 hb2) hb3) hb4) hb5) hb6) hb7⟩
  · clear h3
    go_enter Try.func5, Try.ntmps5
    go_wp2_with (first | (go_at_call 14; refine (awake11' _).mono ?_; rintro e w1 ⟨rfl, hb1⟩) | (go_at_call 17; ((with_reducible refine (P1.out _).mono ?_); rintro e w2 ⟨rfl, hb2⟩)) | (go_at_call 17; ((with_reducible refine (P2.out _).mono ?_); rintro e w3 ⟨rfl, hb3⟩)) | (go_at_call 17; ((with_reducible refine (P3.out _).mono ?_); rintro e w4 ⟨rfl, hb4⟩)) | (go_at_call 19; ((with_reducible refine (D1.out _).mono ?_); rintro e w5 ⟨rfl, hb5⟩)) | (go_at_call 19; ((with_reducible refine (D2.out _).mono ?_); rintro e w6 ⟨rfl, hb6⟩)) | (go_at_call 19; ((with_reducible refine (D3.out _).mono ?_); rintro e w7 ⟨rfl, hb7⟩)) | (go_at_call 21; ((with_reducible refine (X1.out _).mono ?_); rintro e w8 ⟨rfl, rfl⟩)) | (go_at_call 21; ((with_reducible refine (X2.out _).mono ?_); rintro e w8 ⟨rfl, rfl⟩)) | (go_at_call 21; ((with_reducible refine (X3.out _).mono ?_); rintro e w8 ⟨rfl, rfl⟩)))
    go_ret
    exact ⟨rfl, nextB (nextB (nextB (nextB (nextB (nextB hb1 hb2) hb3) hb4) hb5) hb6) hb7⟩

theorem walk_SyncParts (a : List UInt8) (ha : a.length ≤ maxLen) (b : List UInt8) (hb : b.length ≤ maxLen) (w : World) :
    Calls Try.prog 5 #[.string ⟨a.toArray⟩, .string ⟨b.toArray⟩] w fun e w' => e = .returned (.bool true) ∧ Below w.heap.size w w' := by
  by_cases h : 500 < a.length ∨ 500 < b.length ∨ a.getLast? = some 255
  · exact syncParts_out a b ha hb w h
  · simp only [not_or] at h
    exact syncParts_in a b (by omega) (by omega) h.2.2 w

end Go.Proofs.Ytfbdgahbhlapmaa
