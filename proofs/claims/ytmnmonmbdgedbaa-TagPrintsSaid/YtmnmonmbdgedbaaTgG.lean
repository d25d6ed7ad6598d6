/- Layer 15 (tag): the statement TagPrints, joined. -/
import Derived.Test.YtmnmonmbdgedbaaTgF
namespace Go.Proofs.Ytmnmonmbdgedbaa
open Go.RowKit
set_option linter.unusedVariables false
set_option linter.unusedSimpArgs false

theorem plain_len_le' (v : Int) (f : Fr) (h4 : f.id.length ≤ 4) (hs : spreadB v f.fm = false) : (printF v f).length ≤ f.bo.length + 15 := by
  have h2 := data_len v f
  have h3 := sizeL_len v (lengthF v f)
  have h1 : lengthF v f ≤ f.bo.length + 5 := by
    unfold lengthF
    rw [hs]
    simp only [Bool.false_eq_true, if_false]
    split <;> split <;> omega
  rw [printF_eq]
  simp only [List.length_append]
  have h5 : (flagL v f.st f.fm).length ≤ 2 := by unfold flagL; split <;> simp [bigL_len]
  split at h3 <;> omega
theorem bodyL_plain_le' (v : Int) (hv : v ≠ 4) (k : Nat) : ∀ (fs : List Fr), (∀ f ∈ fs, checkF v f = 0 ∧ f.bo.length ≤ k) → (bodyL v fs).length ≤ (k + 15) * fs.length
  | [], _ => by simp [bodyL]
  | f :: fs, h => by
    have h1 := bodyL_plain_le' v hv k fs (fun x hx => h x (List.mem_cons_of_mem _ hx))
    obtain ⟨h2, h3⟩ := h f List.mem_cons_self
    have h4 := plain_len_le' v f (named_pos (checkF_ok h2).1).2.1 (by unfold spreadB; rw [if_neg hv])
    have hb : bodyL v (f :: fs) = printF v f ++ bodyL v fs := by simp [bodyL]
    rw [hb, List.length_append, List.length_cons, Nat.mul_succ]
    omega
theorem light_bodyT' {t : Tg} (hl : lightT t.fs = true) (hc : (checkT t).1 = 0) : (bodyT t.v t.fl t.fs).length ≤ 18900 ∧ (bodyL t.v t.fs).length ≤ 18900 := by
  obtain ⟨_, _, hf, _⟩ := checkT_ok hc
  have hlp := light_parts hl
  have h1 := bodyL_le t.v 300 t.fs (fun f hx => ⟨(badIn_ok (hf f hx)).1, (hlp.2 f hx).2⟩)
  have h3 : (2 * 300 + 15) * t.fs.length ≤ (2 * 300 + 15) * 30 := Nat.mul_le_mul_left _ hlp.1
  refine ⟨?_, by omega⟩
  by_cases hw : wholeB t.v t.fl = true
  · have hv : t.v ≠ 4 := by
      intro e
      unfold wholeB at hw
      rw [if_pos e] at hw
      exact absurd hw (by decide)
    have h2 := bodyL_plain_le' t.v hv 300 t.fs (fun f hx => ⟨(badIn_ok (hf f hx)).1, (hlp.2 f hx).2⟩)
    have h4 : (300 + 15) * t.fs.length ≤ (300 + 15) * 30 := Nat.mul_le_mul_left _ hlp.1
    have h5 := bodyT_le t.v t.fl t.fs
    omega
  · unfold bodyT
    rw [if_neg hw]
    omega
theorem printT_len2' (t : Tg) : (printT t).length ≤ (bodyT t.v t.fl t.fs).length + 20 := by
  unfold printT tailT
  simp only [List.length_append, headL_len]
  split <;> simp [headL_len] <;> omega
theorem placeF_same' (v : Int) (p : Int) (fs : List Fr) : (placeF v p fs).map (fun f => if false = true then f else zeroPl' f) = fs.map (fun f => if false = true then f else zeroPl' f) := by
  have h := placeF_zero v p fs
  exact h
set_option maxHeartbeats 1000000 in
theorem walk_TagPrints (w : World) (tv : Value) (ht : TagIn w tv) (sd : List UInt8) (hsd0 : sd.length ≤ maxLen) : Calls Try.prog 7 #[tv, .string ⟨sd.toArray⟩] w fun e w' => e = .returned (.bool true) ∧ Below w.heap.size w w' := by
  obtain ⟨⟨v, rv, fl, fs⟩, a, n, cap, rfl, hr, hn, hp⟩ := ht
  have hnl : fs.length = n := by simpa using hr.1
  have hs := Lib.hid (fun w' (h : Below w.heap.size w w') => hr.below h)
  cases hl : lightT fs with
  | false =>
    exact tprints_over v rv fl a n cap sd false (HS := fun w' => RecsAt w' a n 6 (fs.map frR)) w hs (Lib.hid fun w' h => by have := light_in v rv fl a n cap fs w' (Lib.hid h) hn; rw [hl] at this; exact this) (.inl rfl)
  | true =>
    have LG : Hid (∀ w', RecsAt w' a n 6 (fs.map frR) → Calls Try.prog 14 #[.agg #[.int .i64 v, .int .u8 rv.toNat, .int .u8 fl.toNat, .slice a n cap]] w' (SaysB true w')) := Lib.hid fun w' h => by have := light_in v rv fl a n cap fs w' (Lib.hid h) hn; rw [hl] at this; exact this
    by_cases hsd : (200 : Int) < sd.length
    · exact tprints_over v rv fl a n cap sd true (HS := fun w' => RecsAt w' a n 6 (fs.map frR)) w hs LG (.inr ⟨rfl, hsd⟩)
    obtain ⟨hn30, hsm⟩ := light_parts hl
    have hid : ∀ f ∈ fs, f.id.length ≤ 1000000 ∧ f.bo.length ≤ 1000000 := fun f hf => by have := hsm f hf; omega
    have hl0 : lightT (⟨v, rv, fl, fs⟩ : Tg).fs = true := hl
    have PR := fun w' (h : RecsAt w' a n 6 (fs.map frR)) => tprint_any ⟨v, rv, fl, fs⟩ a n cap w' h (by omega) hid (fun hc => Nat.le_trans (light_bodyT' hl0 hc).2 (by decide))
    have CK := fun w' (h : RecsAt w' a n 6 (fs.map frR)) => tcheck_any ⟨v, rv, fl, fs⟩ a n cap w' h (by omega) (fun f hf => by have := (hid f hf).1; omega)
    have RC := fun a2 cap2 w' (h : RecsAt w' a2 n 6 (fs.map rfR)) => rtcheck_any ⟨v, rv, fl, fs⟩ a2 n cap2 w' h (by omega) (fun f hf => by have := (hid f hf).1; omega)
    by_cases hc : (checkT ⟨v, rv, fl, fs⟩).1 = 0
    rotate_left
    · rw [if_neg hc] at PR
      exact tprints_in v rv fl a n cap fs fs [] sd (checkT ⟨v, rv, fl, fs⟩).1 (checkT ⟨v, rv, fl, fs⟩).2 w (Lib.hid hr) (by omega) hsd (by decide) LG (Lib.hid PR) (Lib.hid CK) (Lib.hid RC) (.inl ⟨hc, rfl⟩)
    obtain ⟨e0, hb, hf, _⟩ := checkT_ok hc
    obtain ⟨hv, _, _⟩ := badH_ok hb
    have hB := light_bodyT' hl0 hc
    have hB1 : (bodyT v fl fs).length ≤ 18900 := hB.1
    have hB2 : (bodyL v fs).length ≤ 18900 := hB.2
    have L0' : (printT ⟨v, rv, fl, fs⟩).length ≤ 18920 := Nat.le_trans (printT_len2' ⟨v, rv, fl, fs⟩) (Nat.add_le_add_right hB1 20)
    rw [if_pos hc, e0] at PR
    rw [e0] at CK RC
    have PA := fun w => (tparse_any (printT ⟨v, rv, fl, fs⟩ ++ sd) w (by rw [List.length_append]; omega))
    have hbo : ∀ f ∈ fs, f.bo.length ≤ 8000000 := fun f hf => by have := hsm f hf; omega
    rw [prT_print ⟨v, rv, fl, fs⟩ sd hc hbo (Nat.le_trans hB2 (by decide))] at PA
    have hpl : (placeF v 10 fs).length = n := by rw [placeF_len]; exact hnl
    have PA2 := fun w => (PA w).mono (fun e w' => tparF_of ⟨v, rv, fl, placeF v 10 fs⟩ sd n hpl w w' e)
    have RP := fun a2 cap2 w' (h : RecsAt w' a2 n 6 (fs.map rfR)) => rtprint_any v rv fl a2 n cap2 fs (bodyT v fl fs) w' (Lib.hid h) (by omega) hv (Lib.hid fun f hx => ⟨(badIn_ok (hf f hx)).1, (hid f hx).2⟩) (by omega) (Lib.hid rfl) (by omega)
    exact tprints_in v rv fl a n cap fs (placeF v 10 fs) (printT ⟨v, rv, fl, fs⟩) sd 0 0 w (Lib.hid hr) (by omega) hsd (by omega) LG (Lib.hid PR) (Lib.hid CK) (Lib.hid RC) (.inr ⟨rfl, rfl, Lib.hid (placeF_same' v 10 fs), Lib.hid PA2, Lib.hid RP⟩)
end Go.Proofs.Ytmnmonmbdgedbaa
