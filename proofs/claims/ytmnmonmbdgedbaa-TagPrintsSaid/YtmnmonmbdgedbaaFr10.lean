/- Layer 13 (frame): Print, joined. -/
import Derived.Test.YtmnmonmbdgedbaaFr9a
import Derived.Test.YtmnmonmbdgedbaaFr9b
import Derived.Test.YtmnmonmbdgedbaaFr9c
import Derived.Test.YtmnmonmbdgedbaaFr9d
import Derived.Test.YtmnmonmbdgedbaaFr9e
import Derived.Test.YtmnmonmbdgedbaaFr9f
import Derived.Test.YtmnmonmbdgedbaaFr9g
import Derived.Test.YtmnmonmbdgedbaaFr9h
import Derived.Test.YtmnmonmbdgedbaaFr9i
import Derived.Test.YtmnmonmbdgedbaaFr9j
import Derived.Test.YtmnmonmbdgedbaaFr9k
namespace Go.Proofs.Ytmnmonmbdgedbaa
open Go.RowKit
set_option linter.unusedVariables false
set_option linter.unusedSimpArgs false

def sizeL (v : Int) (n : Nat) : List UInt8 := if v = 2 then bigL n 3 else if v = 3 then bigL n 4 else safeL n
def dataL (v : Int) (f : Fr) : List UInt8 :=
  (if grouped v f.fm = true then bigL f.gr.toNat 1 else []) ++ ((if measured v f.fm = true then safeL f.bo.length else []) ++ (if spreadB v f.fm = true then sndPut f.bo else f.bo))
def printF (v : Int) (f : Fr) : List UInt8 := f.id ++ (sizeL v (lengthF v f) ++ ((if v = 2 then [] else bigL f.st.toNat 1 ++ bigL f.fm.toNat 1) ++ dataL v f))
theorem safeS_length : ∀ (k n : Nat), (safeS n k).length = k
  | 0, n => rfl
  | k + 1, n => by rw [safeS, List.length_cons, safeS_length k]
theorem safeL_length (n : Nat) : (safeL n).length = 4 := by unfold safeL; rw [List.length_reverse, safeS_length]
theorem lengthF_le (v : Int) (f : Fr) : lengthF v f ≤ 2 * f.bo.length + 5 := by
  have := sndCnt_le f.bo
  unfold lengthF
  split <;> split <;> split <;> omega
theorem letters_of {v : Int} (h : letters v ≠ 0) : v = 2 ∨ v = 3 ∨ v = 4 := by
  unfold letters at h
  by_cases a : v = 2
  · exact .inl a
  · by_cases b : v = 3
    · exact .inr (.inl b)
    · by_cases c : v = 4
      · exact .inr (.inr c)
      · rw [if_neg a, if_neg b, if_neg c] at h
        exact absurd rfl h
theorem checkF_ok {v : Int} {f : Fr} (h : checkF v f = 0) : named v f.id = true ∧ wfB v f.st f.fm = false ∧ wgB v f.gr f.fm = false := by
  unfold checkF at h
  split at h
  · rename_i hk
    unfold okF at hk
    simp only [Bool.and_eq_true, Bool.not_eq_true'] at hk
    exact ⟨hk.1, hk.2.1, hk.2.2⟩
  · exact absurd h (by decide)
theorem named_ok {v : Int} {id : List UInt8} (h : named v id = true) : (v = 2 ∨ v = 3 ∨ v = 4) ∧ id.length = letters v ∧ wrongN id = letters v := by
  unfold named at h
  simp only [Bool.and_eq_true, decide_eq_true_eq] at h
  exact ⟨letters_of (by omega), h.2.1, h.2.2⟩
theorem grouped_two (fm : UInt8) : grouped 2 fm = false := by unfold grouped locked; simp
theorem measured_not {v : Int} (h : v ≠ 4) (fm : UInt8) : measured v fm = false := by unfold measured; rw [if_neg h]
theorem spread_not {v : Int} (h : v ≠ 4) (fm : UInt8) : spreadB v fm = false := by unfold spreadB; rw [if_neg h]
set_option maxHeartbeats 1000000 in
theorem fprint_any (v : Int) (f : Fr) (w : World) (hl : f.bo.length ≤ 8000000) (hid : f.id.length ≤ 8000000) :
    Calls Try.prog 88 #[frV f, .int .i64 v] w (FPrints (if checkF v f = 0 then printF v f else []) (checkF v f) w) := by
  have CK := Lib.hid (fun w => fcheck_any v f w (by omega))
  by_cases hc : checkF v f = 0
  rotate_left
  · rw [if_neg hc]
    exact fprint_bad v f.id f.st f.fm f.gr f.bo f.pl (checkF v f) w hc CK
  rw [if_pos hc]
  rw [hc] at CK ⊢
  have LN := Lib.hid (fun w => flength_any v f w (by omega))
  obtain ⟨hv, hi, hw⟩ := named_ok (checkF_ok hc).1
  have hle := lengthF_le v f
  have hcn := sndCnt_le f.bo
  have hpl := sndPut_len f.bo
  have GR := Lib.hid (fun w => grouped_any v f.id f.st f.fm w)
  have ME := Lib.hid (fun w => measured_any v f.id f.st f.fm w)
  have SP := Lib.hid (fun w => spread_any v f.id f.st f.fm w)
  have b1 := UInt8.toNat_lt f.st
  have b2 := UInt8.toNat_lt f.fm
  have b3 := UInt8.toNat_lt f.gr
  have BS := Lib.hid (fun w => big_any f.st.toNat 1 1 w (Lib.hid (by omega)) (Lib.hid (by decide)))
  have BF := Lib.hid (fun w => big_any f.fm.toNat 1 1 w (Lib.hid (by omega)) (Lib.hid (by decide)))
  have BG := Lib.hid (fun w => big_any f.gr.toNat 1 1 w (Lib.hid (by omega)) (Lib.hid (by decide)))
  have BM := Lib.hid (fun w => safe_yes f.bo.length w (by omega))
  have PU := Lib.hid (fun w => put_any f.bo w (by omega))
  have JF := Lib.hid (fun a w h => octJoin_any a 2 2 [bigL f.st.toNat 1, bigL f.fm.toNat 1] w h (by decide) (by decide) (by simp [bigL_len]))
  unfold printF sizeL dataL
  rw [show frV f = Value.agg (frC f.id f.st f.fm f.gr f.bo f.pl) from rfl] at *
  rcases hv with rfl | rfl | rfl
  · have BL := Lib.hid (fun w => big_any (lengthF 2 f) 3 3 w (Lib.hid (by omega)) (Lib.hid (by decide)))
    rw [grouped_two] at GR ⊢
    rw [measured_not (by decide)] at ME ⊢
    rw [spread_not (by decide)] at SP ⊢
    have k := fprint_2000 f.id f.st f.fm f.gr f.bo f.pl _ _ _ _ _ [] [] f.bo _ w (by omega) (by omega) CK LN GR ME SP BS BF JF BL rfl rfl (by simp [bigL_len, safeL_length, hpl]; omega)
    simpa [List.append_assoc] using k
  · have BL := Lib.hid (fun w => big_any (lengthF 3 f) 4 4 w (Lib.hid (by omega)) (Lib.hid (by decide)))
    rw [measured_not (by decide)] at ME ⊢
    rw [spread_not (by decide)] at SP ⊢
    generalize lengthF 3 f = n at *
    generalize grouped 3 f.fm = gp at *
    rcases gp with _ | _
    · skip
      have k := fprint_3000 f.id f.st f.fm f.gr f.bo f.pl _ _ _ _ _ [] [] f.bo _ w (by omega) (by omega) CK LN GR ME SP BS BF JF BL rfl rfl (by simp [bigL_len, safeL_length, hpl]; omega)
      simpa [List.append_assoc] using k
    · skip
      have k := fprint_3100 f.id f.st f.fm f.gr f.bo f.pl _ _ _ _ _ (bigL f.gr.toNat 1) [] f.bo _ w (by omega) (by omega) CK LN GR ME SP BS BF JF BL BG rfl rfl (by simp [bigL_len, safeL_length, hpl]; omega)
      simpa [List.append_assoc] using k
  · have BL := Lib.hid (fun w => safe_yes (lengthF 4 f) w (by omega))
    generalize lengthF 4 f = n at *
    generalize grouped 4 f.fm = gp at *
    generalize measured 4 f.fm = ms at *
    generalize spreadB 4 f.fm = sp at *
    rcases gp with _ | _
    · rcases ms with _ | _
      · rcases sp with _ | _
        · skip
          have k := fprint_4000 f.id f.st f.fm f.gr f.bo f.pl _ _ _ _ _ [] [] f.bo _ w (by omega) (by omega) CK LN GR ME SP BS BF JF BL rfl rfl (by simp [bigL_len, safeL_length, hpl]; omega)
          simpa [List.append_assoc] using k
        · skip
          have k := fprint_4001 f.id f.st f.fm f.gr f.bo f.pl _ _ _ _ _ [] [] (sndPut f.bo) _ w (by omega) (by omega) CK LN GR ME SP BS BF JF BL PU rfl (by simp [bigL_len, safeL_length, hpl]; omega)
          simpa [List.append_assoc] using k
      · rcases sp with _ | _
        · skip
          have k := fprint_4010 f.id f.st f.fm f.gr f.bo f.pl _ _ _ _ _ [] (safeL f.bo.length) f.bo _ w (by omega) (by omega) CK LN GR ME SP BS BF JF BL BM rfl rfl (by simp [bigL_len, safeL_length, hpl]; omega)
          simpa [List.append_assoc] using k
        · skip
          have k := fprint_4011 f.id f.st f.fm f.gr f.bo f.pl _ _ _ _ _ [] (safeL f.bo.length) (sndPut f.bo) _ w (by omega) (by omega) CK LN GR ME SP BS BF JF BL BM PU rfl (by simp [bigL_len, safeL_length, hpl]; omega)
          simpa [List.append_assoc] using k
    · rcases ms with _ | _
      · rcases sp with _ | _
        · skip
          have k := fprint_4100 f.id f.st f.fm f.gr f.bo f.pl _ _ _ _ _ (bigL f.gr.toNat 1) [] f.bo _ w (by omega) (by omega) CK LN GR ME SP BS BF JF BL BG rfl rfl (by simp [bigL_len, safeL_length, hpl]; omega)
          simpa [List.append_assoc] using k
        · skip
          have k := fprint_4101 f.id f.st f.fm f.gr f.bo f.pl _ _ _ _ _ (bigL f.gr.toNat 1) [] (sndPut f.bo) _ w (by omega) (by omega) CK LN GR ME SP BS BF JF BL BG PU rfl (by simp [bigL_len, safeL_length, hpl]; omega)
          simpa [List.append_assoc] using k
      · rcases sp with _ | _
        · skip
          have k := fprint_4110 f.id f.st f.fm f.gr f.bo f.pl _ _ _ _ _ (bigL f.gr.toNat 1) (safeL f.bo.length) f.bo _ w (by omega) (by omega) CK LN GR ME SP BS BF JF BL BG BM rfl rfl (by simp [bigL_len, safeL_length, hpl]; omega)
          simpa [List.append_assoc] using k
        · skip
          have k := fprint_4111 f.id f.st f.fm f.gr f.bo f.pl _ _ _ _ _ (bigL f.gr.toNat 1) (safeL f.bo.length) (sndPut f.bo) _ w (by omega) (by omega) CK LN GR ME SP BS BF JF BL BG BM PU rfl (by simp [bigL_len, safeL_length, hpl]; omega)
          simpa [List.append_assoc] using k
end Go.Proofs.Ytmnmonmbdgedbaa
