/- Layer 13 (frame): the document's Print, joined (printed by gen_fr15.py). -/
import Derived.Test.YtmnmonmbdgedbaaFr14x
namespace Go.Proofs.Ytmnmonmbdgedbaa
open Go.RowKit
set_option linter.unusedVariables false
set_option linter.unusedSimpArgs false

theorem dataL_len (v : Int) (f : Fr) : (dataL v f).length = lengthF v f := by
  unfold dataL lengthF
  have := sndPut_len f.bo
  split <;> split <;> split <;> simp [bigL_len, safeL_length, this] <;> omega
set_option maxHeartbeats 1000000 in
theorem rfprint_any (v : Int) (f : Fr) (w : World) (hl : f.bo.length ≤ 1000000) (hc : checkF v f = 0) :
    Calls Try.prog 77 #[.int .i64 v, rfV f] w (RPrint (printF v f) w) := by
  obtain ⟨hv, hi, hw⟩ := named_ok (checkF_ok hc).1
  have hi4 : f.id.length ≤ 4 := by
    rw [hi]; unfold letters; split; decide; split; decide; split; decide; decide
  have hdl := dataL_len v f
  have hle := lengthF_le v f
  have hcn := sndCnt_le f.bo
  have hpl := sndPut_len f.bo
  have GR := Lib.hid (fun w => rgrouped_any v f.fm w)
  have ME := Lib.hid (fun w => rmeasured_any v f.fm w)
  have SP := Lib.hid (fun w => rspread_any v f.fm w)
  have b1 := UInt8.toNat_lt f.st
  have b2 := UInt8.toNat_lt f.fm
  have b3 := UInt8.toNat_lt f.gr
  have BS := Lib.hid (fun w => rbig_any f.st.toNat 1 1 w (Lib.hid (by omega)) (Lib.hid (by decide)))
  have BF := Lib.hid (fun w => rbig_any f.fm.toNat 1 1 w (Lib.hid (by omega)) (Lib.hid (by decide)))
  have BG := Lib.hid (fun w => rbig_any f.gr.toNat 1 1 w (Lib.hid (by omega)) (Lib.hid (by decide)))
  have BM := Lib.hid (fun w => rsafe_any f.bo.length w (by omega))
  have PU : Hid (∀ w, Calls Try.prog 78 #[.string ⟨f.bo.toArray⟩] w fun e w' => e = .returned (.string ⟨(sndPut f.bo).toArray⟩) ∧ Below w.heap.size w w') := Lib.hid (fun w => (rput_any f.bo w (by omega)).mono fun e w1 h => ⟨h.1, h.2 ▸ Below.refl _ _⟩)
  rw [show rfV f = Value.agg #[.string ⟨f.id.toArray⟩, .int .i64 f.st.toNat, .int .i64 f.fm.toNat, .int .i64 f.gr.toNat, .string ⟨f.bo.toArray⟩, .int .i64 f.pl] from rfl]
  have q1 := bigL_len 1 f.st.toNat
  have q2 := bigL_len 1 f.fm.toNat
  have q3 := bigL_len 1 f.gr.toNat
  have q4 := safeL_length f.bo.length
  unfold printF sizeL
  unfold dataL at hdl ⊢
  rcases hv with rfl | rfl | rfl
  · have BL := Lib.hid (fun w => rbig_any (lengthF 2 f) 3 3 w (Lib.hid (by omega)) (Lib.hid (by decide)))
    rw [grouped_two] at GR hdl ⊢
    rw [measured_not (by decide)] at ME hdl ⊢
    rw [spread_not (by decide)] at SP hdl ⊢
    generalize lengthF 2 f = n at *
    have hd : f.bo.length = n := by simpa using hdl
    have k := rfprint_2000 f.id f.st f.fm f.gr f.bo f.pl n (bigL f.st.toNat 1) (bigL f.fm.toNat 1) _ [] [] [] f.bo [] _ w (by omega) (by omega) (by omega) GR ME SP BL hd (by simp [bigL_len, safeL_length]) (by omega) (by omega) (by simp) (by simp) rfl
    simpa [List.append_assoc] using k
  · have BL := Lib.hid (fun w => rbig_any (lengthF 3 f) 4 4 w (Lib.hid (by omega)) (Lib.hid (by decide)))
    rw [measured_not (by decide)] at ME hdl ⊢
    rw [spread_not (by decide)] at SP hdl ⊢
    generalize lengthF 3 f = n at *
    generalize grouped 3 f.fm = gp at *
    rcases gp with _ | _
    · skip
      have hd : f.bo.length = n := by simpa using hdl
      have k := rfprint_3000 f.id f.st f.fm f.gr f.bo f.pl n (bigL f.st.toNat 1) (bigL f.fm.toNat 1) _ [] [] [] f.bo [] _ w (by omega) (by omega) (by omega) GR ME SP BS BF BL hd (by simp [bigL_len, safeL_length]) (by omega) (by omega) (by simp) (by simp) rfl
      simpa [List.append_assoc] using k
    · skip
      have hd : ((bigL f.gr.toNat 1) ++ f.bo).length = n := by simpa using hdl
      have k := rfprint_3100 f.id f.st f.fm f.gr f.bo f.pl n (bigL f.st.toNat 1) (bigL f.fm.toNat 1) _ [] (bigL f.gr.toNat 1) [] f.bo ((bigL f.gr.toNat 1) ++ f.bo) _ w (by omega) (by omega) (by omega) GR ME SP BS BF BL BG rfl hd (by simp [bigL_len, safeL_length]) (by omega) (by omega) (by omega) (by simp) rfl
      simpa [List.append_assoc] using k
  · have BL := Lib.hid (fun w => rsafe_any (lengthF 4 f) w (by omega))
    have BX := Lib.hid (fun w => rbig_any (lengthF 4 f) 4 4 w (Lib.hid (by omega)) (Lib.hid (by decide)))
    generalize lengthF 4 f = n at *
    generalize grouped 4 f.fm = gp at *
    generalize measured 4 f.fm = ms at *
    generalize spreadB 4 f.fm = sp at *
    rcases gp with _ | _
    · rcases ms with _ | _
      · rcases sp with _ | _
        · skip
          have hd : f.bo.length = n := by simpa using hdl
          have k := rfprint_4000 f.id f.st f.fm f.gr f.bo f.pl n (bigL f.st.toNat 1) (bigL f.fm.toNat 1) _ (bigL n 4) [] [] f.bo [] _ w (by omega) (by omega) (by omega) GR ME SP BS BF BX BL hd (by simp [bigL_len, safeL_length]) (by omega) (by omega) (by simp) (by simp) rfl
          simpa [List.append_assoc] using k
        · skip
          have hd : (sndPut f.bo).length = n := by simpa using hdl
          have k := rfprint_4001 f.id f.st f.fm f.gr f.bo f.pl n (bigL f.st.toNat 1) (bigL f.fm.toNat 1) _ (bigL n 4) [] [] (sndPut f.bo) [] _ w (by omega) (by omega) (by omega) GR ME SP BS BF BX BL PU hd (by simp [bigL_len, safeL_length]) (by omega) (by omega) (by simp) (by simp) rfl
          simpa [List.append_assoc] using k
      · rcases sp with _ | _
        · skip
          have hd : ((safeL f.bo.length) ++ f.bo).length = n := by simpa using hdl
          have k := rfprint_4010 f.id f.st f.fm f.gr f.bo f.pl n (bigL f.st.toNat 1) (bigL f.fm.toNat 1) _ (bigL n 4) [] (safeL f.bo.length) f.bo ((safeL f.bo.length) ++ f.bo) _ w (by omega) (by omega) (by omega) GR ME SP BS BF BX BL BM rfl hd (by simp [bigL_len, safeL_length]) (by omega) (by omega) (by simp) (by omega) rfl
          simpa [List.append_assoc] using k
        · skip
          have hd : ((safeL f.bo.length) ++ (sndPut f.bo)).length = n := by simpa using hdl
          have k := rfprint_4011 f.id f.st f.fm f.gr f.bo f.pl n (bigL f.st.toNat 1) (bigL f.fm.toNat 1) _ (bigL n 4) [] (safeL f.bo.length) (sndPut f.bo) ((safeL f.bo.length) ++ (sndPut f.bo)) _ w (by omega) (by omega) (by omega) GR ME SP BS BF BX BL BM PU rfl hd (by simp [bigL_len, safeL_length]) (by omega) (by omega) (by simp) (by omega) rfl
          simpa [List.append_assoc] using k
    · rcases ms with _ | _
      · rcases sp with _ | _
        · skip
          have hd : ((bigL f.gr.toNat 1) ++ f.bo).length = n := by simpa using hdl
          have k := rfprint_4100 f.id f.st f.fm f.gr f.bo f.pl n (bigL f.st.toNat 1) (bigL f.fm.toNat 1) _ (bigL n 4) (bigL f.gr.toNat 1) [] f.bo ((bigL f.gr.toNat 1) ++ f.bo) _ w (by omega) (by omega) (by omega) GR ME SP BS BF BX BL BG rfl hd (by simp [bigL_len, safeL_length]) (by omega) (by omega) (by omega) (by simp) rfl
          simpa [List.append_assoc] using k
        · skip
          have hd : ((bigL f.gr.toNat 1) ++ (sndPut f.bo)).length = n := by simpa using hdl
          have k := rfprint_4101 f.id f.st f.fm f.gr f.bo f.pl n (bigL f.st.toNat 1) (bigL f.fm.toNat 1) _ (bigL n 4) (bigL f.gr.toNat 1) [] (sndPut f.bo) ((bigL f.gr.toNat 1) ++ (sndPut f.bo)) _ w (by omega) (by omega) (by omega) GR ME SP BS BF BX BL BG PU rfl hd (by simp [bigL_len, safeL_length]) (by omega) (by omega) (by omega) (by simp) rfl
          simpa [List.append_assoc] using k
      · rcases sp with _ | _
        · skip
          have hd : ((bigL f.gr.toNat 1) ++ ((safeL f.bo.length) ++ f.bo)).length = n := by simpa using hdl
          have k := rfprint_4110 f.id f.st f.fm f.gr f.bo f.pl n (bigL f.st.toNat 1) (bigL f.fm.toNat 1) _ (bigL n 4) (bigL f.gr.toNat 1) (safeL f.bo.length) f.bo ((bigL f.gr.toNat 1) ++ ((safeL f.bo.length) ++ f.bo)) _ w (by omega) (by omega) (by omega) GR ME SP BS BF BX BL BG BM rfl hd (by simp [bigL_len, safeL_length]) (by omega) (by omega) (by omega) (by omega) rfl
          simpa [List.append_assoc] using k
        · skip
          have hd : ((bigL f.gr.toNat 1) ++ ((safeL f.bo.length) ++ (sndPut f.bo))).length = n := by simpa using hdl
          have k := rfprint_4111 f.id f.st f.fm f.gr f.bo f.pl n (bigL f.st.toNat 1) (bigL f.fm.toNat 1) _ (bigL n 4) (bigL f.gr.toNat 1) (safeL f.bo.length) (sndPut f.bo) ((bigL f.gr.toNat 1) ++ ((safeL f.bo.length) ++ (sndPut f.bo))) _ w (by omega) (by omega) (by omega) GR ME SP BS BF BX BL BG BM PU rfl hd (by simp [bigL_len, safeL_length]) (by omega) (by omega) (by omega) (by omega) rfl
          simpa [List.append_assoc] using k
end Go.Proofs.Ytmnmonmbdgedbaa
