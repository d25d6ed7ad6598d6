/- The plain laws of layer 11, and the walks of its statements SyncBack and SyncParts. -/
import Derived.Test.YtdoheningeafhaaSync
namespace Go.Proofs.Ytdoheningeafhaa
open Go.RowKit

theorem put_at : ∀ (l : List UInt8) (i : Nat), (sndPut l)[i]? = some 255 → ∃ d, (sndPut l)[i + 1]? = some d ∧ d.toNat < 224
  | [], i, e => by simp [sndPut] at e
  | c :: t, i, e => by
    cases hs : snd (c :: t) with
    | true =>
      have hp : sndPut (c :: t) = c :: 0 :: sndPut t := by simp [sndPut, hs]
      rw [hp] at e ⊢
      match i, e with
      | 0, e => exact ⟨0, rfl, by decide⟩
      | 1, e => simp at e
      | j + 2, e => simpa using put_at t j (by simpa using e)
    | false =>
      have hp : sndPut (c :: t) = c :: sndPut t := by simp [sndPut, hs]
      rw [hp] at e ⊢
      match i, e with
      | 0, e =>
        simp only [List.getElem?_cons_zero, Option.some.injEq] at e
        subst e
        cases t with
        | nil => simp [snd] at hs
        | cons d t' =>
          simp only [snd, BEq.rfl, Bool.true_and, Bool.or_eq_false_iff, decide_eq_false_iff_not] at hs
          exact ⟨d, by simp [sndPut], by omega⟩
      | j + 1, e => simpa using put_at t j (by simpa using e)

theorem drop_put : ∀ (l : List UInt8) (ff : Bool), (ff = true → l.head? ≠ some 0) → sndDrop ff (sndPut l) = l
  | [], ff, _ => by simp [sndPut, sndDrop]
  | c :: t, ff, hf => by
    have h0 : (c == 0 && ff) = false := by
      cases ff with
      | false => simp
      | true =>
        have := hf rfl
        simp only [List.head?_cons, ne_eq, Option.some.injEq] at this
        simp [this]
    cases hs : snd (c :: t) with
    | true =>
      have hp : sndPut (c :: t) = c :: 0 :: sndPut t := by simp [sndPut, hs]
      have hc : c = 255 := by
        simp only [snd, Bool.and_eq_true, beq_iff_eq] at hs
        exact hs.1
      rw [hp, sndDrop, h0]
      subst hc
      have := drop_put t false (by simp)
      simp [sndDrop, this]
    | false =>
      have hp : sndPut (c :: t) = c :: sndPut t := by simp [sndPut, hs]
      rw [hp, sndDrop, h0]
      have := drop_put t (c == 255) (by
        intro hc
        rw [beq_iff_eq] at hc
        subst hc
        cases t with
        | nil => simp
        | cons d t' =>
          simp only [snd, BEq.rfl, Bool.true_and, Bool.or_eq_false_iff, beq_eq_false_iff_ne] at hs
          simpa using hs.1)
      simp [this]

theorem put_clean : ∀ (l : List UInt8), sndCnt l = 0 → sndPut l = l
  | [], _ => rfl
  | c :: t, h => by
    cases hs : snd (c :: t) with
    | true => simp [sndCnt, hs] at h
    | false =>
      simp [sndCnt, hs] at h
      simp [sndPut, hs, put_clean t h]

theorem snd_append (c : UInt8) (t b : List UInt8) (h : (c :: t).getLast? ≠ some 255) : snd (c :: (t ++ b)) = snd (c :: t) := by
  cases t with
  | nil =>
    simp only [List.getLast?_singleton, ne_eq, Option.some.injEq] at h
    simp [snd, h]
  | cons d t' => rfl
theorem last_tail (c : UInt8) (t : List UInt8) (h : (c :: t).getLast? ≠ some 255) : t.getLast? ≠ some 255 := by
  cases t with
  | nil => simp
  | cons d t' => simpa [List.getLast?_cons] using h

theorem put_append : ∀ (a b : List UInt8), a.getLast? ≠ some 255 → sndPut (a ++ b) = sndPut a ++ sndPut b
  | [], b, _ => rfl
  | c :: t, b, h => by
    have h1 := snd_append c t b h
    have h2 := put_append t b (last_tail c t h)
    cases hs : snd (c :: t) <;> simp [sndPut, h1, h2, hs]
theorem cnt_append : ∀ (a b : List UInt8), a.getLast? ≠ some 255 → sndCnt (a ++ b) = sndCnt a + sndCnt b
  | [], b, _ => by simp [sndCnt]
  | c :: t, b, h => by
    have h1 := snd_append c t b h
    have h2 := cnt_append t b (last_tail c t h)
    cases hs : snd (c :: t) <;> simp [sndCnt, h1, h2, hs]; omega
theorem drop_append : ∀ (a b : List UInt8) (ff : Bool), a.getLast? ≠ some 255 → (a = [] → ff = false) → sndDrop ff (a ++ b) = sndDrop ff a ++ sndDrop false b
  | [], b, ff, _, h => by rw [h rfl]; rfl
  | c :: t, b, ff, h, _ => by
    have h2 := drop_append t b (c == 255) (last_tail c t h) (by
      rintro rfl
      simpa using h)
    simp only [List.cons_append, sndDrop, h2]
    split <;> simp

theorem sndDrop_len : ∀ (l : List UInt8) (ff : Bool), (sndDrop ff l).length ≤ l.length
  | [], _ => Nat.le_refl _
  | c :: t, ff => by
    have := sndDrop_len t (c == 255)
    simp only [sndDrop]
    split <;> simp <;> omega

end Go.Proofs.Ytdoheningeafhaa
