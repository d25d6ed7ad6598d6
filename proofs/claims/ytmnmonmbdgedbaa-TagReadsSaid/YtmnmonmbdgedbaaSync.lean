/- The walks of layer 11 (unsync): each function of the program and of its reference comes to a plain function on lists of bytes. | The plain laws of layer 11, and the walks of its statements SyncBack and SyncParts. -/
import Derived.Test.YtmnmonmbdgedbaaProg
import Derived.Test.YtmnmonmbdgedbaaRd
import Derived.BigGuardPart
import Derived.Deep.QuietTactic
import Derived.BigQuiet
import Derived.Laws.CopyOwn

namespace Go.Proofs.Ytmnmonmbdgedbaa
open Go.RowKit

/-- does the text begin like sound -/
def snd : List UInt8 → Bool
  | [] => false
  | c :: t => c == 255 && (match t with | [] => true | d :: _ => d == 0 || decide (224 ≤ d.toNat))
def sndCnt : List UInt8 → Nat
  | [] => 0
  | c :: t => (if snd (c :: t) then 1 else 0) + sndCnt t
def sndPut : List UInt8 → List UInt8
  | [] => []
  | c :: t => c :: (if snd (c :: t) then 0 :: sndPut t else sndPut t)
/-- what is kept, the byte ahead being FF or not -/
def sndDrop (ff : Bool) : List UInt8 → List UInt8
  | [] => []
  | c :: t => if c == 0 && ff then sndDrop (c == 255) t else c :: sndDrop (c == 255) t

theorem snd_ne (l : List UInt8) (i : Nat) (h : i < l.length) (h1 : ((l[i].toNat : Int) != 255) = true) : snd (l.drop i) = false := by
  rw [drop_cons l i h]
  have : (l[i] == 255) = false := by
    rw [beq_eq_false_iff_ne]; intro e; rw [e] at h1; simp at h1
  simp [snd, this]
theorem snd_last (l : List UInt8) (i : Nat) (h : i < l.length) (h1 : ((l[i].toNat : Int) != 255) = false) (h2 : (i : Int) + 1 = l.length) : snd (l.drop i) = true := by
  rw [drop_cons l i h, List.drop_eq_nil_of_le (by omega)]
  have : l[i] = 255 := by
    rw [u8_eq]; simp at h1; have : (255 : UInt8).toNat = 255 := rfl; omega
  simp [snd, this]
theorem snd_in (l : List UInt8) (i : Nat) (h : i + 1 < l.length) (h1 : ((l[i].toNat : Int) != 255) = false) :
    snd (l.drop i) = ((((l[i + 1].toNat : Int)) == 0) || decide (224 ≤ (l[i + 1].toNat : Int))) := by
  rw [drop_cons l i (by omega), drop_cons l (i + 1) h]
  have : l[i] = 255 := by
    rw [u8_eq]; simp at h1; have : (255 : UInt8).toNat = 255 := rfl; omega
  have e0 : (l[i + 1] == 0) = (((l[i + 1].toNat : Int)) == 0) := by
    rw [Bool.eq_iff_iff]; simp [u8_eq]
  have e1 : decide (224 ≤ l[i + 1].toNat) = decide (224 ≤ (l[i + 1].toNat : Int)) := by
    rw [Bool.eq_iff_iff]; simp; omega
  simp [snd, this, e0, e1]

set_option maxRecDepth 100000 in
set_option maxHeartbeats 400000 in
theorem looks_any (l : List UInt8) (i : Nat) (w : World) (hb : l.length ≤ maxLen) (hi : i < l.length) :
    Calls Try.prog 64 #[.string ⟨l.toArray⟩, .int .i64 i] w fun e w' => e = .returned (.bool (snd (l.drop i))) ∧ w = w' := by
  have H1 := Lib.hid (snd_ne l i hi)
  have H2 := Lib.hid (snd_last l i hi)
  have H3 := Lib.hid (snd_in l i)
  unfold maxLen at hb
  go_enter Try.func64, Try.ntmps64
  go_wp2
  all_goals go_ret
  · exact ⟨ret_bool (H1.out (by assumption)).symm, rfl⟩
  · exact ⟨ret_bool (H2.out (by assumption) (by assumption)).symm, rfl⟩
  · have h0 : (l[i + 1].toNat : Int) = 0 := by assumption
    exact ⟨ret_bool (by rw [H3.out (by omega) (by assumption)]; simp [h0]), rfl⟩
  · have h0 : ¬ (l[i + 1].toNat : Int) = 0 := by assumption
    exact ⟨ret_bool (by rw [H3.out (by omega) (by assumption), beq_eq_false_iff_ne.2 h0]; simp), rfl⟩

theorem sndCnt_le : ∀ l : List UInt8, sndCnt l ≤ l.length
  | [] => Nat.le_refl _
  | c :: t => by have := sndCnt_le t; simp only [sndCnt, List.length_cons]; split <;> omega

set_option maxRecDepth 100000 in
set_option maxHeartbeats 400000 in
theorem extra_any (l : List UInt8)  (w : World) (hb : l.length ≤ 1000000000) :
    Calls Try.prog 63 #[.string ⟨l.toArray⟩] w fun e w' => e = .returned (.int .i64 (sndCnt l)) ∧ w = w' := by
  go_enter Try.func63, Try.ntmps63
  go_wp2
  go_loop [3, 7] (fun n i => ∃ k m : Nat, k ≤ l.length ∧ m ≤ k ∧ i = .int .i64 k ∧ n = .int .i64 m ∧ Hid (m + sndCnt (l.drop k) = sndCnt l)) (fun _ i => l.length - (intOf i).toNat)
  case atStart => exact ⟨0, 0, Nat.zero_le _, Nat.zero_le _, rfl, rfl, Lib.hid (by simp)⟩
  case round =>
    obtain ⟨k, m, hk, hm, rfl, rfl, H⟩ := hrel
    by_cases hlt : k < l.length
    · have HD := Lib.hid (drop_cons l k hlt)
      go_wp2_with (go_at_call 64; refine (looks_any _ _ _ (by unfold maxLen; omega) (by omega)).mono ?_; rintro e w' ⟨rfl, rfl⟩)
      · have h1 : snd (l.drop k) = true := by assumption
        go_round
        case rel => exact ⟨k + 1, m + 1, by omega, by omega, by go_num, by go_num, Lib.hid (by have := H.out; rw [HD.out, sndCnt, ← HD.out, h1] at this; simp at this; omega)⟩
        case measure => simp [intOf]; omega
      · have h1 : snd (l.drop k) = false := by assumption
        go_round
        case rel => exact ⟨k + 1, m, by omega, by omega, by go_num, by go_num, Lib.hid (by have := H.out; rw [HD.out, sndCnt, ← HD.out, h1] at this; simp at this; omega)⟩
        case measure => simp [intOf]; omega
    · go_wp2
      go_ret
      exact ⟨ret_int (by have := H.out; rw [List.drop_eq_nil_of_le (by omega)] at this; simp [sndCnt] at this; omega), rfl⟩

theorem info_u8 : (Try.prog.info? 5).map (fun i => (i.zero, i.size, i.bytes)) = some (some (.int .u8 0), 1, 1) := by kernel_rfl

theorem sndPut_len : ∀ l : List UInt8, (sndPut l).length = l.length + sndCnt l
  | [] => rfl
  | c :: t => by have := sndPut_len t; simp only [sndPut, sndCnt]; split <;> simp <;> omega

set_option maxRecDepth 100000 in
set_option maxHeartbeats 1000000 in
theorem put_any (l : List UInt8)  (w : World) (hb : l.length ≤ 1000000000) :
    Calls Try.prog 18 #[.string ⟨l.toArray⟩] w fun e w' => e = .returned (.string ⟨(sndPut l).toArray⟩) ∧ Below w.heap.size w w' := by
  have hcl := sndCnt_le l
  obtain ⟨i0, hi, hz0, hz1, hz2⟩ := info_parts info_u8
  go_enter Try.func18, Try.ntmps18
  go_wp2_with (first | (go_at_call 63; refine (extra_any _ _ (by omega)).mono ?_; rintro e w' ⟨rfl, rfl⟩) | (at_make; refine wpList_make_own _ rfl _ _ 97 rfl w.heap.size 5 i0 (.int .u8 0) 1 Try.underlying97 hi hz0 hz1 _ _ _ (l.length + sndCnt l) rfl rfl (by omega) (by rw [hz2]; omega) (by unfold maxLen; omega) (Nat.le_refl _) ?_))
  intro w1 hown hgrow
  have hbuf : Buf w1 w.heap.size 5 (.slice (some ⟨w.heap.size, 0, none⟩) 0 (l.length + sndCnt l)) [] := hown
  have hbel : Below w.heap.size w w1 := (Below.refl _ _).grown hgrow (Nat.le_refl _) (by intro k hk; cases hk)
  clear hown hgrow
  go_wp2
  go_loopw [3, 13] (fun v i wr => ∃ (k : Nat) (acc : List UInt8), k ≤ l.length ∧ i = .int .i64 k ∧ acc.length ≤ 2 * k ∧ Hid (Buf wr w.heap.size 5 v acc) ∧ Hid (Below w.heap.size w wr) ∧ Hid (acc ++ sndPut (l.drop k) = sndPut l)) (fun _ i _ => l.length - (intOf i).toNat)
  case atStart => exact ⟨0, [], Nat.zero_le _, rfl, Nat.zero_le _, Lib.hid hbuf, Lib.hid hbel, Lib.hid (by simp)⟩
  case round =>
    clear hbuf hbel
    obtain ⟨k, acc, hk, rfl, hal, HB, HL, H⟩ := hrel
    by_cases hlt : k < l.length
    · have HD := Lib.hid (drop_cons l k hlt)
      have hbase := HL.out.size
      go_wp2_with (first | (at_builtin; refine wpList_push _ rfl (.tmp 16) (.tmp 20) 97 rfl w.heap.size 5 Try.underlying97 info_u8 _ acc l[k] _ rfl rfl HB.out rfl (by omega) hbase _ ?_; intro v1 w1 hb1 hg1) | (at_builtin; refine wpList_push _ rfl (.tmp 25) (.tmp 26) 97 rfl w.heap.size 5 Try.underlying97 info_u8 _ (acc ++ [l[k]]) 0 _ rfl rfl hb1 rfl (by simp; omega) (by have := hg1.size; omega) _ ?_; intro v2 w2 hb2 hg2) | (go_at_call 64; refine (looks_any _ _ _ (by unfold maxLen; omega) (by omega)).mono ?_; rintro e w' ⟨rfl, rfl⟩))
      · have h1 : snd (l.drop k) = true := by assumption
        go_roundw
        case rel => exact ⟨k + 1, _, by omega, by go_num, by simp; omega, Lib.hid hb2, Lib.hid ((HL.out.grown hg1 hbase (fun j hj => (HB.out.lt j hj).1)).grown hg2 (by have := hg1.size; omega) (fun j hj => (hb1.lt j hj).1)), Lib.hid (by have := H.out; rw [HD.out, sndPut, ← HD.out, h1] at this; simpa using this)⟩
        case measure => simp [intOf]; omega
      · have h1 : snd (l.drop k) = false := by assumption
        go_roundw
        case rel => exact ⟨k + 1, _, by omega, by go_num, by simp; omega, Lib.hid hb1, Lib.hid (HL.out.grown hg1 hbase (fun j hj => (HB.out.lt j hj).1)), Lib.hid (by have := H.out; rw [HD.out, sndPut, ← HD.out, h1] at this; simpa using this)⟩
        case measure => simp [intOf]; omega
    · have hcv := ownsRow_bytes (P := Try.prog) (src := 97) (dst := 9) HB.out Try.underlying97 Try.underlying5 Try.underlying9
      go_wp2
      go_ret
      exact ⟨ret_str (by have := H.out; rw [List.drop_eq_nil_of_le (by omega)] at this; simpa [sndPut] using this), HL.out⟩

set_option maxRecDepth 100000 in
set_option maxHeartbeats 400000 in
theorem rlooks_any (l : List UInt8) (i : Nat) (w : World) (hb : l.length ≤ maxLen) (hi : i < l.length) :
    Calls Try.prog 113 #[.string ⟨l.toArray⟩, .int .i64 i] w fun e w' => e = .returned (.bool (snd (l.drop i))) ∧ w = w' := by
  have H1 := Lib.hid (snd_ne l i hi)
  have H2 := Lib.hid (snd_last l i hi)
  have H3 := Lib.hid (snd_in l i)
  unfold maxLen at hb
  by_cases hlt : i + 1 < l.length
  · have hz : ((i : Int) + 1 == (l.length : Int)) = false := beq_eq_false_iff_ne.2 (by omega)
    go_enter Try.func113, Try.ntmps113
    go_wp2
    all_goals go_ret
    · exact ⟨ret_bool (H1.out (by assumption)).symm, rfl⟩
    · have h0 : (l[i + 1].toNat : Int) = 0 := by assumption
      exact ⟨ret_bool (by rw [H3.out (by omega) (by assumption)]; simp [h0]), rfl⟩
    · have h0 : ¬ (l[i + 1].toNat : Int) = 0 := by assumption
      exact ⟨ret_bool (by rw [H3.out (by omega) (by assumption), beq_eq_false_iff_ne.2 h0]; simp), rfl⟩
  · have hz : ((i : Int) + 1 == (l.length : Int)) = true := beq_iff_eq.2 (by omega)
    go_enter Try.func113, Try.ntmps113
    go_wp2
    all_goals go_ret
    · exact ⟨ret_bool (H1.out (by assumption)).symm, rfl⟩
    · exact ⟨ret_bool (H2.out (by assumption) (by omega)).symm, rfl⟩

set_option maxRecDepth 100000 in
set_option maxHeartbeats 400000 in
theorem clean_any (l : List UInt8)  (w : World) (hb : l.length ≤ 1000000000) :
    Calls Try.prog 46 #[.string ⟨l.toArray⟩] w fun e w' => e = .returned (.bool (decide (sndCnt l = 0))) ∧ w = w' := by
  go_enter Try.func46, Try.ntmps46
  go_wp2
  go_loop [6] (fun i => ∃ k : Nat, k ≤ l.length ∧ i = .int .i64 k ∧ Hid (sndCnt (l.drop k) = sndCnt l)) (fun i => l.length - (intOf i).toNat)
  case atStart => exact ⟨0, Nat.zero_le _, rfl, Lib.hid (by simp)⟩
  case round =>
    obtain ⟨k, hk, rfl, H⟩ := hrel
    by_cases hlt : k < l.length
    · have HD := Lib.hid (drop_cons l k hlt)
      go_wp2_with (go_at_call 64; refine (looks_any _ _ _ (by unfold maxLen; omega) (by omega)).mono ?_; rintro e w' ⟨rfl, rfl⟩)
      · have h1 : snd (l.drop k) = true := by assumption
        go_ret
        exact ⟨ret_bool (by have := H.out; rw [HD.out, sndCnt, ← HD.out, h1] at this; simp at this; simp; omega), rfl⟩
      · have h1 : snd (l.drop k) = false := by assumption
        go_round
        case rel => exact ⟨k + 1, by omega, by go_num, Lib.hid (by have := H.out; rw [HD.out, sndCnt, ← HD.out, h1] at this; simp at this; omega)⟩
        case measure => simp [intOf]; omega
    · go_wp2
      go_ret
      exact ⟨ret_bool (by have := H.out; rw [List.drop_eq_nil_of_le (by omega)] at this; simp [sndCnt] at this; simp; omega), rfl⟩

set_option maxRecDepth 100000 in
set_option maxHeartbeats 400000 in
theorem rput_any (l : List UInt8) (w : World) (hb : l.length ≤ 1000000000) :
    Calls Try.prog 78 #[.string ⟨l.toArray⟩] w fun e w' => e = .returned (.string ⟨(sndPut l).toArray⟩) ∧ w = w' := by
  go_enter Try.func78, Try.ntmps78
  go_wp2
  go_loop [3, 4] (fun s i => ∃ (k : Nat) (acc : List UInt8), k ≤ l.length ∧ i = .int .i64 k ∧ acc.length ≤ 2 * k ∧ s = .string ⟨acc.toArray⟩ ∧ Hid (acc ++ sndPut (l.drop k) = sndPut l)) (fun _ i => l.length - (intOf i).toNat)
  case atStart => exact ⟨0, [], Nat.zero_le _, rfl, Nat.zero_le _, rfl, Lib.hid (by simp)⟩
  case round =>
    obtain ⟨k, acc, hk, rfl, hal, rfl, H⟩ := hrel
    by_cases hlt : k < l.length
    · have HD := Lib.hid (drop_cons l k hlt)
      go_wp2_with (go_at_call 113; refine (rlooks_any _ _ _ (by unfold maxLen; omega) (by omega)).mono ?_; rintro e w' ⟨rfl, rfl⟩)
      · have h1 : snd (l.drop k) = true := by assumption
        go_round
        case rel => exact ⟨k + 1, _, by omega, by go_num, by simp; omega, rfl, Lib.hid (by have := H.out; rw [HD.out, sndPut, ← HD.out, h1] at this; rw [take_one l k hlt]; simpa using this)⟩
        case measure => simp [intOf]; omega
      · have h1 : snd (l.drop k) = false := by assumption
        go_round
        case rel => exact ⟨k + 1, _, by omega, by go_num, by simp; omega, rfl, Lib.hid (by have := H.out; rw [HD.out, sndPut, ← HD.out, h1] at this; rw [take_one l k hlt]; simpa using this)⟩
        case measure => simp [intOf]; omega
    · go_wp2
      go_ret
      exact ⟨ret_str (by have := H.out; rw [List.drop_eq_nil_of_le (by omega)] at this; simpa [sndPut] using this), rfl⟩

theorem sndDrop_true (l : List UInt8) (h : l.head? ≠ some 0) : sndDrop true l = sndDrop false l := by
  cases l with
  | nil => rfl
  | cons c t =>
    have : (c == 0) = false := by rw [beq_eq_false_iff_ne]; intro e; simp [e] at h
    simp [sndDrop, this]

/-- is the byte ahead of a place FF -/
def ffAt (l : List UInt8) : Nat → Bool
  | 0 => false
  | k + 1 => l.getD k 0 == 255
theorem ffAt_succ (l : List UInt8) (k : Nat) (h : k < l.length) : ffAt l (k + 1) = (l[k] == 255) := by simp [ffAt, h]
theorem drop_step (l : List UInt8) (k : Nat) (h : k < l.length) : sndDrop (ffAt l k) (l.drop k) =
    if l[k] == 0 && ffAt l k then sndDrop (ffAt l (k + 1)) (l.drop (k + 1)) else l[k] :: sndDrop (ffAt l (k + 1)) (l.drop (k + 1)) := by
  rw [drop_cons l k h, sndDrop, ffAt_succ l k h]
theorem drop_yes {l : List UInt8} {k : Nat} {acc : List UInt8} (h : k < l.length) (H : Hid (acc ++ sndDrop (ffAt l k) (l.drop k) = sndDrop false l)) (h0 : (l[k] == 0 && ffAt l k) = true) :
    Hid (acc ++ sndDrop (ffAt l (k + 1)) (l.drop (k + 1)) = sndDrop false l) := by
  have := H.out
  rw [drop_step l k h, if_pos h0] at this
  exact Lib.hid this
theorem drop_no {l : List UInt8} {k : Nat} {acc : List UInt8} (h : k < l.length) (H : Hid (acc ++ sndDrop (ffAt l k) (l.drop k) = sndDrop false l)) (h0 : (l[k] == 0 && ffAt l k) = false) :
    Hid ((acc ++ [l[k]]) ++ sndDrop (ffAt l (k + 1)) (l.drop (k + 1)) = sndDrop false l) := by
  have := H.out
  rw [drop_step l k h, h0] at this
  exact Lib.hid (by simpa using this)
theorem toNat_beq (c d : UInt8) : (c == d) = ((c.toNat : Int) == (d.toNat : Int)) := by
  rw [Bool.eq_iff_iff, beq_iff_eq, beq_iff_eq, u8_eq]; omega

set_option maxRecDepth 100000 in
set_option maxHeartbeats 1000000 in
theorem drop_any (l : List UInt8)  (w : World) (hb : l.length ≤ 1000000000) :
    Calls Try.prog 45 #[.string ⟨l.toArray⟩] w fun e w' => e = .returned (.string ⟨(sndDrop false l).toArray⟩) ∧ Below w.heap.size w w' := by
  obtain ⟨i0, hi, hz0, hz1, hz2⟩ := info_parts info_u8
  go_enter Try.func45, Try.ntmps45
  go_wp2_with (at_make; refine wpList_make_own _ rfl _ _ 97 rfl w.heap.size 5 i0 (.int .u8 0) 1 Try.underlying97 hi hz0 hz1 _ _ _ l.length rfl rfl (by omega) (by rw [hz2]; omega) (by unfold maxLen; omega) (Nat.le_refl _) ?_)
  intro w1 hown hgrow
  have hbuf : Buf w1 w.heap.size 5 (.slice (some ⟨w.heap.size, 0, none⟩) 0 l.length) [] := hown
  have hbel : Below w.heap.size w w1 := (Below.refl _ _).grown hgrow (Nat.le_refl _) (by intro k hk; cases hk)
  clear hown hgrow
  go_wp2
  go_loopw [3, 10] (fun v i wr => ∃ (k : Nat) (acc : List UInt8), k ≤ l.length ∧ i = .int .i64 k ∧ acc.length ≤ k ∧ Hid (Buf wr w.heap.size 5 v acc) ∧ Hid (Below w.heap.size w wr) ∧ Hid (acc ++ sndDrop (ffAt l k) (l.drop k) = sndDrop false l)) (fun _ i _ => l.length - (intOf i).toNat)
  case atStart => exact ⟨0, [], Nat.zero_le _, rfl, Nat.zero_le _, Lib.hid hbuf, Lib.hid hbel, Lib.hid (by simp [ffAt])⟩
  case round =>
    clear hbuf hbel
    obtain ⟨k, acc, hk, rfl, hal, HB, HL, H⟩ := hrel
    by_cases hlt : k < l.length
    · have HD := Lib.hid (drop_cons l k hlt)
      have hbase := HL.out.size
      have HAL := Lib.hid hal
      clear hal
      rcases k with _ | j
      · rcases hz : ((l[0].toNat : Int) == 0) with _ | _
        all_goals
          go_wp2_with (at_builtin; refine wpList_push _ rfl (.tmp 28) (.tmp 32) 97 rfl w.heap.size 5 Try.underlying97 info_u8 _ acc l[0] _ rfl rfl HB.out rfl (by have := HAL.out; omega) hbase _ ?_; intro v1 w1 hb1 hg1)
          go_roundw
          case rel => exact ⟨1, _, by omega, by go_num, len_snoc HAL.out, Lib.hid hb1, Lib.hid (Buf.push HL.out HB.out hg1 hbase), drop_no hlt H (by simp [ffAt])⟩
          case measure => simp [intOf]; omega
      · have e1 : ((j + 1 : Nat) : Int) - 1 = (j : Int) := by omega
        rcases hz : ((l[j + 1].toNat : Int) == 0) with _ | _
        · go_wp2_with (at_builtin; refine wpList_push _ rfl (.tmp 28) (.tmp 32) 97 rfl w.heap.size 5 Try.underlying97 info_u8 _ acc l[j + 1] _ rfl rfl HB.out rfl (by have := HAL.out; omega) hbase _ ?_; intro v1 w1 hb1 hg1)
          go_roundw
          case rel => exact ⟨j + 2, _, by omega, by go_num, len_snoc HAL.out, Lib.hid hb1, Lib.hid (Buf.push HL.out HB.out hg1 hbase), drop_no hlt H (by rw [toNat_beq]; simp [hz])⟩
          case measure => simp [intOf]; omega
        · rcases hf : ((l[j].toNat : Int) == 255) with _ | _
          · go_wp2_with (at_builtin; refine wpList_push _ rfl (.tmp 28) (.tmp 32) 97 rfl w.heap.size 5 Try.underlying97 info_u8 _ acc l[j + 1] _ rfl rfl HB.out rfl (by have := HAL.out; omega) hbase _ ?_; intro v1 w1 hb1 hg1)
            go_roundw
            case rel => exact ⟨j + 2, _, by omega, by go_num, len_snoc HAL.out, Lib.hid hb1, Lib.hid (Buf.push HL.out HB.out hg1 hbase), drop_no hlt H (by rw [ffAt_succ l j (by omega), toNat_beq l[j]]; simp [hf])⟩
            case measure => simp [intOf]; omega
          · go_wp2
            go_roundw
            case rel => exact ⟨j + 2, _, by omega, by go_num, by have := HAL.out; omega, HB, HL, drop_yes hlt H (by rw [ffAt_succ l j (by omega), toNat_beq l[j], toNat_beq]; simp [hf, hz])⟩
            case measure => simp [intOf]; omega
    · have hcv := ownsRow_bytes (P := Try.prog) (src := 97) (dst := 9) HB.out Try.underlying97 Try.underlying5 Try.underlying9
      go_wp2
      go_ret
      exact ⟨ret_str (by have := H.out; rw [List.drop_eq_nil_of_le (by omega)] at this; simpa [sndDrop] using this), HL.out⟩

set_option maxRecDepth 100000 in
set_option maxHeartbeats 1000000 in
theorem rdrop_any (l : List UInt8)  (w : World) (hb : l.length ≤ 1000000000) :
    Calls Try.prog 69 #[.string ⟨l.toArray⟩] w fun e w' => e = .returned (.string ⟨(sndDrop false l).toArray⟩) ∧ w = w' := by
  go_enter Try.func69, Try.ntmps69
  go_wp2
  go_loop [3, 4] (fun s i => ∃ (k : Nat) (acc : List UInt8), k ≤ l.length ∧ i = .int .i64 k ∧ acc.length ≤ k ∧ s = .string ⟨acc.toArray⟩ ∧ Hid (acc ++ sndDrop false (l.drop k) = sndDrop false l)) (fun _ i => l.length - (intOf i).toNat)
  case atStart => exact ⟨0, [], Nat.zero_le _, rfl, Nat.zero_le _, rfl, Lib.hid (by simp)⟩
  case round =>
    obtain ⟨k, acc, hk, rfl, hal, rfl, H⟩ := hrel
    by_cases hlt : k < l.length
    · have HD := Lib.hid (drop_cons l k hlt)
      have HT := Lib.hid (take_one l k hlt)
      rcases hz : ((l[k].toNat : Int) == 255) with _ | _
      · go_wp2
        go_round
        case rel => exact ⟨k + 1, _, by omega, by go_num, by rw [HT.out]; exact len_snoc hal, rfl, Lib.hid (by have := H.out; rw [HD.out, sndDrop, toNat_beq l[k] 255, show ((l[k].toNat : Int) == ((255 : UInt8).toNat : Int)) = false from hz] at this; rw [HT.out]; simpa using this)⟩
        case measure => simp [intOf]; omega
      · have hq : (l[k] == 255) = true := by rw [toNat_beq]; exact hz
        by_cases hl2 : (k : Int) + 1 < (l.length : Int)
        · have HD2 := Lib.hid (drop_cons l (k + 1) (by omega))
          have hlt2 : k + 1 < l.length := by omega
          rcases hf : ((l[k + 1].toNat : Int) == 0) with _ | _
          · go_wp2
            go_round
            case rel => exact ⟨k + 1, _, by omega, by go_num, by rw [HT.out]; exact len_snoc hal, rfl, Lib.hid (by have := H.out; rw [HD.out, sndDrop, hq, sndDrop_true _ (by rw [HD2.out, List.head?_cons]; intro e; rw [Option.some.inj e] at hf; simp at hf)] at this; rw [HT.out]; simpa using this)⟩
            case measure => simp [intOf]; omega
          · have hq2 : (l[k + 1] == 0) = true := by rw [toNat_beq]; exact hf
            have hq3 : (l[k + 1] == 255) = false := by rw [beq_iff_eq] at hq2; rw [hq2]; rfl
            go_wp2
            go_round
            case rel => exact ⟨k + 2, _, by omega, by go_num, by rw [HT.out]; exact Nat.le_succ_of_le (len_snoc hal), rfl, Lib.hid (by have := H.out; rw [HD.out, HD2.out, sndDrop, sndDrop, hq, hq2, hq3] at this; rw [HT.out]; simpa using this)⟩
            case measure => simp [intOf]; omega
        · go_wp2
          go_round
          case rel => exact ⟨k + 1, _, by omega, by go_num, by rw [HT.out]; exact len_snoc hal, rfl, Lib.hid (by have := H.out; rw [HD.out, sndDrop, hq, sndDrop_true _ (by rw [List.drop_eq_nil_of_le (by omega)]; simp)] at this; rw [HT.out]; simpa using this)⟩
          case measure => simp [intOf]; omega
    · go_wp2
      go_ret
      exact ⟨ret_str (by have := H.out; rw [List.drop_eq_nil_of_le (by omega)] at this; simpa [sndDrop] using this), rfl⟩

/-! ### The document's example -/
theorem drewB (w : World) (B : Nat) : Below B w w := Below.refl _ _

set_option maxRecDepth 100000 in
set_option maxHeartbeats 1000000 in
theorem awake11 (w : World) : Calls Try.prog 12 #[] w fun e w' => e = .returned (.bool true) ∧ Below w.heap.size w w' := by
  have c1 := fun W => put_any [255, 224] W (by decide)
  have c2 := fun W => drop_any [255, 0, 0] W (by decide)
  have c3 := fun W => clean_any [255] W (by decide)
  have e1 : sndPut [255, 224] = [255, 0, 224] := by decide
  have e2 : sndDrop false [255, 0, 0] = [255, 0] := by decide
  have e3 : decide (sndCnt [255] = 0) = false := by decide
  rw [e1] at c1
  rw [e2] at c2
  rw [e3] at c3
  have C1 := Lib.hid c1
  have C2 := Lib.hid c2
  have C3 := Lib.hid c3
  clear c1 c2 c3 e1 e2 e3
  go_enter Try.func12, Try.ntmps12
  go_wp2_with (first | (go_at_call 18; refine (C1.out _).mono ?_; rintro e w1 ⟨rfl, hb1⟩) | (go_at_call 45; refine (C2.out _).mono ?_; rintro e w2 ⟨rfl, hb2⟩) | (go_at_call 46; refine (C3.out _).mono ?_; rintro e w3 ⟨rfl, rfl⟩))
  go_ret
  exact ⟨rfl, hb1.trans (hb2.mono hb1.size)⟩

/-! ### The laws -/
theorem awake_back (w W w' : World) (h : Below W.heap.size W w') (hw : Below w.heap.size w W) : Below w.heap.size w w' := hw.trans (h.mono hw.size)

end Go.Proofs.Ytmnmonmbdgedbaa

namespace Go.Proofs.Ytmnmonmbdgedbaa
open Go.RowKit

theorem put_at : ∀ (l : List UInt8) (i : Nat), (sndPut l)[i]? = some 255 → ∃ d, (sndPut l)[i + 1]? = some d ∧ d.toNat < 224
  | [], i, e => by simp [sndPut] at e
  | c :: t, i, e => by
    cases hs : snd (c :: t) with
    | true =>
      have hp : sndPut (c :: t) = c :: 0 :: sndPut t := by simp [sndPut, hs]
      rw [hp] at e ⊢
      match i, e with
      | 0, e => exact ⟨0, rfl, by decide⟩
      | 1, e => simp at e
      | j + 2, e => simpa using put_at t j (by simpa using e)
    | false =>
      have hp : sndPut (c :: t) = c :: sndPut t := by simp [sndPut, hs]
      rw [hp] at e ⊢
      match i, e with
      | 0, e =>
        simp only [List.getElem?_cons_zero, Option.some.injEq] at e
        subst e
        cases t with
        | nil => simp [snd] at hs
        | cons d t' =>
          simp only [snd, BEq.rfl, Bool.true_and, Bool.or_eq_false_iff, decide_eq_false_iff_not] at hs
          exact ⟨d, by simp [sndPut], by omega⟩
      | j + 1, e => simpa using put_at t j (by simpa using e)

theorem drop_put : ∀ (l : List UInt8) (ff : Bool), (ff = true → l.head? ≠ some 0) → sndDrop ff (sndPut l) = l
  | [], ff, _ => by simp [sndPut, sndDrop]
  | c :: t, ff, hf => by
    have h0 : (c == 0 && ff) = false := by
      cases ff with
      | false => simp
      | true =>
        have := hf rfl
        simp only [List.head?_cons, ne_eq, Option.some.injEq] at this
        simp [this]
    cases hs : snd (c :: t) with
    | true =>
      have hp : sndPut (c :: t) = c :: 0 :: sndPut t := by simp [sndPut, hs]
      have hc : c = 255 := by
        simp only [snd, Bool.and_eq_true, beq_iff_eq] at hs
        exact hs.1
      rw [hp, sndDrop, h0]
      subst hc
      have := drop_put t false (by simp)
      simp [sndDrop, this]
    | false =>
      have hp : sndPut (c :: t) = c :: sndPut t := by simp [sndPut, hs]
      rw [hp, sndDrop, h0]
      have := drop_put t (c == 255) (by
        intro hc
        rw [beq_iff_eq] at hc
        subst hc
        cases t with
        | nil => simp
        | cons d t' =>
          simp only [snd, BEq.rfl, Bool.true_and, Bool.or_eq_false_iff, beq_eq_false_iff_ne] at hs
          simpa using hs.1)
      simp [this]

theorem put_clean : ∀ (l : List UInt8), sndCnt l = 0 → sndPut l = l
  | [], _ => rfl
  | c :: t, h => by
    cases hs : snd (c :: t) with
    | true => simp [sndCnt, hs] at h
    | false =>
      simp [sndCnt, hs] at h
      simp [sndPut, hs, put_clean t h]

theorem snd_append (c : UInt8) (t b : List UInt8) (h : (c :: t).getLast? ≠ some 255) : snd (c :: (t ++ b)) = snd (c :: t) := by
  cases t with
  | nil =>
    simp only [List.getLast?_singleton, ne_eq, Option.some.injEq] at h
    simp [snd, h]
  | cons d t' => rfl
theorem last_tail (c : UInt8) (t : List UInt8) (h : (c :: t).getLast? ≠ some 255) : t.getLast? ≠ some 255 := by
  cases t with
  | nil => simp
  | cons d t' => simpa [List.getLast?_cons] using h

theorem put_append : ∀ (a b : List UInt8), a.getLast? ≠ some 255 → sndPut (a ++ b) = sndPut a ++ sndPut b
  | [], b, _ => rfl
  | c :: t, b, h => by
    have h1 := snd_append c t b h
    have h2 := put_append t b (last_tail c t h)
    cases hs : snd (c :: t) <;> simp [sndPut, h1, h2, hs]
theorem cnt_append : ∀ (a b : List UInt8), a.getLast? ≠ some 255 → sndCnt (a ++ b) = sndCnt a + sndCnt b
  | [], b, _ => by simp [sndCnt]
  | c :: t, b, h => by
    have h1 := snd_append c t b h
    have h2 := cnt_append t b (last_tail c t h)
    cases hs : snd (c :: t) <;> simp [sndCnt, h1, h2, hs]; omega
theorem drop_append : ∀ (a b : List UInt8) (ff : Bool), a.getLast? ≠ some 255 → (a = [] → ff = false) → sndDrop ff (a ++ b) = sndDrop ff a ++ sndDrop false b
  | [], b, ff, _, h => by rw [h rfl]; rfl
  | c :: t, b, ff, h, _ => by
    have h2 := drop_append t b (c == 255) (last_tail c t h) (by
      rintro rfl
      simpa using h)
    simp only [List.cons_append, sndDrop, h2]
    split <;> simp

theorem sndDrop_len : ∀ (l : List UInt8) (ff : Bool), (sndDrop ff l).length ≤ l.length
  | [], _ => Nat.le_refl _
  | c :: t, ff => by
    have := sndDrop_len t (c == 255)
    simp only [sndDrop]
    split <;> simp <;> omega

end Go.Proofs.Ytmnmonmbdgedbaa
