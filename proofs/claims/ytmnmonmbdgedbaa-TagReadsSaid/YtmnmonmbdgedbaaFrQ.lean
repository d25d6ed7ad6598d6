/- Layer 13 (frame): what is printed is read as it was; a frame that is cut off isn't read (plain). | Layer 13 (frame): the document's example. | Layer 13 (frame): the walk of the statement FrameFlags. | Layer 13 (frame): frames that come in as arguments; the walk of the statement FramePrints. | Layer 13 (frame): a frame that is read may be printed, and is as long as it was, if it isn't spread (plain). -/
import Derived.Test.YtmnmonmbdgedbaaFr11
import Derived.Test.YtmnmonmbdgedbaaFr13
import Derived.Laws.StructEq
import Derived.OpenShut
import Derived.Deep.Slices
import Derived.Deep.RegionHeld3

namespace Go.Proofs.Ytmnmonmbdgedbaa
open Go.RowKit
set_option linter.unusedVariables false
set_option linter.unusedSimpArgs false

theorem low_find {l : List UInt8} (h : Low7 l) : l.findIdx? hi = none := by rw [List.findIdx?_eq_none_iff]; exact h
theorem Run.safe {m : Rd} {r : List UInt8} (n : Nat) (h : Run m (safeL n ++ r)) (hn : n ≤ 268435455) : m.safe = (Go.Proofs.Ytmnmonmbdgedbaa.adv m 4, (n : Int)) := by
  have e := h.take_k 4 (by rw [safeL_length]; rfl)
  unfold Rd.safe
  rw [e]
  simp only [low_find (safeL_low n), num7_safeL n hn, safeL_length]
theorem Run.safe_fell {m : Rd} {r : List UInt8} (h : Run m r) (hk : r.length < 4) : Fell m m.safe.1 := by
  have e := h.take_fell 4 (by omega)
  unfold Rd.safe
  rw [e.2]
  exact e.1
theorem Run.rest {m : Rd} {r : List UInt8} (h : Run m r) : m.rest = (Go.Proofs.Ytmnmonmbdgedbaa.adv m r.length, r) := by
  unfold Rd.rest
  rw [h.left]
  exact Run.take (by rw [List.append_nil]; exact h)
theorem Run.peek1 {m : Rd} {c : UInt8} {r : List UInt8} (h : Run m (c :: r)) : m.peek 1 = [c] := by
  unfold Rd.peek
  rw [if_pos h.1, h.2.2]
  rfl
theorem Run.cons {m : Rd} {r r' : List UInt8} (h : Run m r) (e : r = r') : Run m r' := e ▸ h

theorem letters_le (v : Int) : letters v ≤ 4 := by unfold letters; split; decide; split; decide; split; decide; decide
theorem bad_zero : badC 0 = true := by decide
/-- a name's bytes are letters -/
theorem named_good {id : List UInt8} (h : wrongN id = id.length) : ∀ c ∈ id, badC c = false := by
  intro c hc
  unfold wrongN at h
  have := List.findIdx_eq_length.1 h c hc
  simpa using this
theorem named_pos {v : Int} {id : List UInt8} (h : named v id = true) : 3 ≤ id.length ∧ id.length ≤ 4 ∧ wrongN id = id.length := by
  obtain ⟨hv, h1, h2⟩ := named_ok h
  rw [h2, h1]
  refine ⟨?_, letters_le v, rfl⟩
  rcases hv with rfl | rfl | rfl <;> decide
/-- the head behind a name: the flags -/
def flagL (v : Int) (st fm : UInt8) : List UInt8 := if v = 2 then [] else bigL st.toNat 1 ++ bigL fm.toNat 1
theorem bigL_1 (c : UInt8) : bigL c.toNat 1 = [c] := by
  have hc := UInt8.toNat_lt c
  simp [bigL, smallL]
theorem flag_num (st fm : UInt8) : UInt8.ofNat (numL [st, fm] / 256) = st ∧ UInt8.ofNat (numL [st, fm] % 256) = fm := by
  have h1 := UInt8.toNat_lt st
  have h2 := UInt8.toNat_lt fm
  have e : numL [st, fm] = st.toNat * 256 + fm.toNat := by simp [numL]
  rw [e, show (st.toNat * 256 + fm.toNat) / 256 = st.toNat by omega, show (st.toNat * 256 + fm.toNat) % 256 = fm.toNat by omega]
  simp
theorem sizeL_len (v : Int) (n : Nat) : (sizeL v n).length = if v = 2 then 3 else 4 := by
  unfold sizeL
  split
  · exact bigL_len 3 n
  · split
    · exact bigL_len 4 n
    · exact safeL_length n
theorem Run.size {v : Int} {m : Rd} {r : List UInt8} (n : Nat) (h : Run m (sizeL v n ++ r)) (hn : n ≤ 16777215) : sizeM v m = (Go.Proofs.Ytmnmonmbdgedbaa.adv m (sizeL v n).length, n) := by
  unfold sizeM
  unfold sizeL at h ⊢
  by_cases h2 : v = 2
  · rw [if_pos h2] at h ⊢
    rw [if_pos h2, h.take_k _ (by rw [bigL_len]), numL_bigL]
    simp only [Prod.mk.injEq, true_and]
    omega
  · rw [if_neg h2] at h ⊢
    rw [if_neg h2]
    by_cases h3 : v = 3
    · rw [if_pos h3] at h ⊢
      rw [if_pos h3, h.take_k _ (by rw [bigL_len]), numL_bigL]
      simp only [Prod.mk.injEq, true_and]
      omega
    · rw [if_neg h3] at h ⊢
      rw [if_neg h3, h.safe n (by omega), safeL_length]
      simp
theorem Run.size_fell {v : Int} {m : Rd} {r : List UInt8} (h : Run m r) (hk : r.length < (if v = 2 then 3 else 4)) : Fell m (sizeM v m).1 := by
  unfold sizeM
  by_cases h2 : v = 2
  · rw [if_pos h2] at hk ⊢
    exact (h.take_fell _ (by omega)).1
  · rw [if_neg h2] at hk ⊢
    by_cases h3 : v = 3
    · rw [if_pos h3]
      exact (h.take_fell _ (by omega)).1
    · rw [if_neg h3]
      exact h.safe_fell hk
theorem Fell.size {m m' : Rd} (v : Int) (h : Fell m m') : sizeM v m' = (m', 0) := sizeM_dead v h.cd
theorem gr_zero {v : Int} {f : Fr} (hc : checkF v f = 0) (hg : grouped v f.fm = false) : f.gr = 0 := by
  have h := (checkF_ok hc).2.2
  unfold wgB nz at h
  rw [hg] at h
  simp at h
  rw [u8_eq]
  simp
  omega
/-- a frame's data is read as it was -/
theorem fill_run (v : Int) (f : Fr) (at0 : Int) (hc : checkF v f = 0) (hl : f.bo.length ≤ 8000000) : fillC v f.fm (dataL v f) at0 = (0, 0) ∧ fillB v f.fm (dataL v f) at0 = (f.gr, f.bo) := by
  unfold fillC fillB
  by_cases hk : locked v f.fm = true
  · rw [if_pos hk, if_pos hk]
    have hg : grouped v f.fm = false := by unfold grouped; rw [if_pos hk]
    have hm : measured v f.fm = false := by unfold measured; rw [if_pos hk]; simp
    have hs : spreadB v f.fm = false := by unfold spreadB; rw [if_pos hk]; simp
    unfold dataL
    rw [hg, hm, hs, gr_zero hc hg]
    simp
  rw [if_neg hk, if_neg hk]
  have R0 := Run.new (dataL v f) at0
  have hd : sndDrop false (sndPut f.bo) = f.bo := drop_put f.bo false (fun h => by cases h)
  have hg0 : grouped v f.fm = false → f.gr = 0 := gr_zero hc
  have hgn : UInt8.ofNat (numL (bigL f.gr.toNat 1)) = f.gr := by rw [bigL_1]; simp [numL]
  unfold fillM
  have key : ∀ (m1 : Rd) (s : List UInt8), Run m1 s → s = (if measured v f.fm = true then safeL f.bo.length else []) ++ (if spreadB v f.fm = true then sndPut f.bo else f.bo) →
      let a2 := if measured v f.fm = true then m1.safe else (m1, 0)
      (a2.1.cd = 0) ∧ (measured v f.fm = true → a2.2 = f.bo.length) ∧ (if spreadB v f.fm = true then sndDrop false a2.1.rest.2 else a2.1.rest.2) = f.bo := by
    intro m1 s R hs
    subst hs
    rcases hm : measured v f.fm with _ | _
    · rw [hm] at R
      simp only [Bool.false_eq_true, if_false, List.nil_append] at R ⊢
      rw [R.rest]
      refine ⟨R.1, by simp, ?_⟩
      split
      · rename_i h; simp only [h, if_true]; exact hd
      · rename_i h; simp only [h, if_false]
    · rw [hm] at R
      simp only [if_true] at R ⊢
      rw [R.safe _ (by omega)]
      have R2 := R.adv
      rw [safeL_length] at R2
      simp only
      rw [R2.rest]
      refine ⟨R2.1, by simp, ?_⟩
      split
      · rename_i h; simp only [h, if_true]; exact hd
      · rename_i h; simp only [h, if_false]
  rcases hg : grouped v f.fm with _ | _
  · have e : dataL v f = (if measured v f.fm = true then safeL f.bo.length else []) ++ (if spreadB v f.fm = true then sndPut f.bo else f.bo) := by unfold dataL; rw [hg]; simp
    have k := key _ _ R0 e
    simp only [Bool.false_eq_true, if_false] at k ⊢
    obtain ⟨k1, k2, k3⟩ := k
    rw [k3, k1, hg0 hg]
    refine ⟨?_, rfl⟩
    rw [if_neg (by simp)]
    rw [if_neg (by rintro ⟨h1, h2⟩; exact h2 (by rw [k2 h1]))]
  · have e : dataL v f = bigL f.gr.toNat 1 ++ ((if measured v f.fm = true then safeL f.bo.length else []) ++ (if spreadB v f.fm = true then sndPut f.bo else f.bo)) := by unfold dataL; rw [hg]; simp
    have R1 : Run (Rd.new (dataL v f) at0) (bigL f.gr.toNat 1 ++ ((if measured v f.fm = true then safeL f.bo.length else []) ++ (if spreadB v f.fm = true then sndPut f.bo else f.bo))) := R0.cons e
    have T := R1.take_k ((1 : Nat) : Int) (by rw [bigL_len])
    have k := key _ _ R1.adv rfl
    simp only [if_true] at k ⊢
    rw [T]
    simp only
    obtain ⟨k1, k2, k3⟩ := k
    rw [k3, k1, hgn]
    refine ⟨?_, rfl⟩
    rw [if_neg (by simp)]
    rw [if_neg (by rintro ⟨h1, h2⟩; exact h2 (by rw [k2 h1]))]
theorem printF_eq (v : Int) (f : Fr) : printF v f = f.id ++ (sizeL v (lengthF v f) ++ (flagL v f.st f.fm ++ dataL v f)) := rfl
theorem data_len (v : Int) (f : Fr) : (dataL v f).length = lengthF v f := by
  unfold dataL lengthF
  have := sndPut_len f.bo
  split <;> split <;> split <;> simp [bigL_len, safeL_length, this] <;> omega
/-- the four steps of a frame's head and data, at a reader that stands at a frame's bytes -/
theorem main_run (v : Int) (sp : Bool) (f : Fr) (m : Rd) (r : List UInt8) (hc : checkF v f = 0) (hl : f.bo.length ≤ 8000000) (hs : v = 4 → sp = true → f.fm ||| 2 = f.fm) (h : Run m (printF v f ++ r)) :
    frMain v sp m = ⟨adv m f.id.length, adv m (printF v f).length, f.id, f.st, f.fm, m.bs + m.nx + ((printF v f).length - lengthF v f : Nat), dataL v f⟩ := by
  obtain ⟨hn, h2a, h2b⟩ := checkF_ok hc
  obtain ⟨hv, hi, hw⟩ := named_ok hn
  obtain ⟨hp1, hp2, hp3⟩ := named_pos hn
  have hle := lengthF_le v f
  have hdl := data_len v f
  have R0 : Run m (f.id ++ (sizeL v (lengthF v f) ++ (flagL v f.st f.fm ++ (dataL v f ++ r)))) := by rw [printF_eq] at h; simpa [List.append_assoc] using h
  have R1 := R0.adv
  have R2 := R1.adv
  have R3 := R2.adv
  have R4 := R3.adv
  have hplen : (printF v f).length = f.id.length + ((sizeL v (lengthF v f)).length + ((flagL v f.st f.fm).length + (dataL v f).length)) := by rw [printF_eq]; simp only [List.length_append]
  unfold frMain
  rw [R0.take_k _ (by rw [hi])]
  simp only
  rw [if_neg (by rw [hp3]; omega), R1.size _ (by omega)]
  simp only
  have e3 : (if v = 2 then (adv (adv m f.id.length) (sizeL v (lengthF v f)).length, []) else Rd.take (adv (adv m f.id.length) (sizeL v (lengthF v f)).length) ((2 : Nat) : Int))
      = (adv (adv (adv m f.id.length) (sizeL v (lengthF v f)).length) (flagL v f.st f.fm).length, flagL v f.st f.fm) := by
    by_cases h2 : v = 2
    · rw [if_pos h2]; unfold flagL; rw [if_pos h2]; rfl
    · rw [if_neg h2]
      refine R2.take_k _ ?_
      unfold flagL; rw [if_neg h2]; simp [bigL_len]
  rw [e3]
  simp only
  rw [R3.take_k _ (by rw [hdl])]
  simp only
  have e4 : UInt8.ofNat (numL (flagL v f.st f.fm) / 256) = f.st ∧ UInt8.ofNat (numL (flagL v f.st f.fm) % 256) = f.fm := by
    unfold flagL
    by_cases h2 : v = 2
    · rw [if_pos h2]
      unfold wfB nz at h2a
      subst h2
      simp at h2a
      have e1 : f.st = 0 := by rw [u8_eq]; simp; omega
      have e2 : f.fm = 0 := by rw [u8_eq]; simp; omega
      rw [e1, e2]
      exact ⟨rfl, rfl⟩
    · rw [if_neg h2, bigL_1, bigL_1]
      exact flag_num f.st f.fm
  rw [e4.1, e4.2]
  have e5 : (if v = 4 ∧ sp = true then f.fm ||| 2 else f.fm) = f.fm := by
    split
    · rename_i h; exact hs h.1 h.2
    · rfl
  rw [e5]
  rw [adv_adv, adv_adv, adv_adv]
  simp only [Fp.mk.injEq, true_and, and_true]
  refine ⟨?_, ?_⟩
  · rw [hplen]
  · show m.bs + ((m.nx + f.id.length + (sizeL v (lengthF v f)).length + (flagL v f.st f.fm).length : Nat) : Int) = _
    rw [hplen, hdl]
    omega
theorem print_head (v : Int) (f : Fr) (hc : checkF v f = 0) : ∃ c t, printF v f = c :: t ∧ c ≠ 0 := by
  obtain ⟨hn, _⟩ := checkF_ok hc
  obtain ⟨hp1, hp2, hp3⟩ := named_pos hn
  have hg := named_good hp3
  rw [printF_eq]
  match hid : f.id, hp1 with
  | c :: t, _ =>
    refine ⟨c, _, rfl, ?_⟩
    intro e
    have := hg c (by rw [hid]; simp)
    rw [e, bad_zero] at this
    cases this
theorem frParse_run (v : Int) (sp : Bool) (f : Fr) (m : Rd) (r : List UInt8) (hc : checkF v f = 0) (hl : f.bo.length ≤ 8000000) (hs : v = 4 → sp = true → f.fm ||| 2 = f.fm) (h : Run m (printF v f ++ r)) :
    frParse v sp m = (adv m (printF v f).length, { f with pl := m.bs + m.nx }, true) := by
  obtain ⟨hn, _⟩ := checkF_ok hc
  obtain ⟨hv, hi, hw⟩ := named_ok hn
  obtain ⟨c, t, hct, hc0⟩ := print_head v f hc
  have h' : Run m (c :: (t ++ r)) := by rw [hct] at h; exact h
  have g0 : letters v ≠ 0 := by have := named_pos hn; omega
  have g2 : m.left ≠ 0 := by rw [h'.left]; simp; omega
  have g3 : m.peek 1 ≠ [0] := by rw [h'.peek1]; simpa using hc0
  unfold frParse
  rw [if_neg (by simp [g0, h.1, g2, g3]), main_run v sp f m r hc hl hs h]
  unfold frEnd
  have hfl := fill_run v f (m.bs + m.nx + ((printF v f).length - lengthF v f : Nat)) hc hl
  simp only [hfl.1, hfl.2]
  rw [if_neg (by simp [adv, h.1]), if_neg (by simp)]
/-- a frame that is cut off isn't read -/
theorem frParse_cut (v : Int) (sp : Bool) (f : Fr) (m : Rd) (r q : List UInt8) (hc : checkF v f = 0) (hl : f.bo.length ≤ 8000000) (h : Run m r) (hr : r ≠ []) (hq : 0 < q.length) (e : r ++ q = printF v f) :
    ∃ m', frParse v sp m = (m', zeroF, false) ∧ Fell m m' := by
  obtain ⟨hn, _⟩ := checkF_ok hc
  obtain ⟨hv, hi, hw⟩ := named_ok hn
  obtain ⟨hp1, hp2, hp3⟩ := named_pos hn
  obtain ⟨c, t, hct, hc0⟩ := print_head v f hc
  have hle := lengthF_le v f
  have hdl := data_len v f
  match r, hr with
  | d :: r, _ =>
    have hdc : d = c := by rw [hct] at e; simp at e; exact e.1
    subst hdc
    have g0 : letters v ≠ 0 := by omega
    have g2 : m.left ≠ 0 := by rw [h.left]; simp; omega
    have g3 : m.peek 1 ≠ [0] := by rw [h.peek1]; simpa using hc0
    unfold frParse
    rw [if_neg (by simp [g0, h.1, g2, g3])]
    have key : Fell m (frMain v sp m).m5 → ∃ m', frEnd v m (frMain v sp m) = (m', zeroF, false) ∧ Fell m m' := by
      intro k
      unfold frEnd
      rw [if_pos k.cd]
      exact ⟨_, rfl, k⟩
    refine key ?_
    generalize hrr : d :: r = r0 at h e
    clear hrr g0 g2 g3
    rw [printF_eq] at e
    unfold frMain
    rcases cut_step e with ⟨r1, rfl, e1⟩ | ⟨a, ha, ha0⟩
    rotate_left
    · have T := h.take_fell ((letters v : Nat) : Int) (by rw [← hi, ha, List.length_append]; omega)
      have w0 : ¬ wrongN (m.take ((letters v : Nat) : Int)).2 < (m.take ((letters v : Nat) : Int)).2.length := by rw [T.2]; simp
      simp only [if_neg w0, T.1.size]
      have T4 : (if v = 2 then ((m.take ((letters v : Nat) : Int)).1, []) else Rd.take (m.take ((letters v : Nat) : Int)).1 ((2 : Nat) : Int)) = ((m.take ((letters v : Nat) : Int)).1, []) := by
        split
        · rfl
        · exact T.1.take _
      rw [T4]
      simp only
      rw [T.1.take]
      exact T.1
    have w1 : ¬ wrongN f.id < f.id.length := by rw [hp3]; omega
    simp only [h.take_k _ (show (f.id.length : Int) = ((letters v : Nat) : Int) by rw [hi]), if_neg w1]
    have R1 := h.adv
    rcases cut_step e1 with ⟨r2, rfl, e2⟩ | ⟨a, ha, ha0⟩
    rotate_left
    · have hll := sizeL_len v (lengthF v f)
      have T := R1.size_fell (v := v) (by rw [← hll, ha, List.length_append]; omega)
      have T9 : sizeM v (adv m f.id.length) = ((sizeM v (adv m f.id.length)).1, (sizeM v (adv m f.id.length)).2) := rfl
      generalize sizeM v (adv m f.id.length) = z at *
      obtain ⟨z1, z2⟩ := z
      simp only at T ⊢
      have T4 : (if v = 2 then (z1, []) else Rd.take z1 ((2 : Nat) : Int)) = (z1, []) := by
        split
        · rfl
        · exact T.take _
      rw [T4]
      simp only
      rw [T.take]
      exact T.adv
    rw [R1.size _ (by omega)]
    simp only
    have R2 := R1.adv
    rcases cut_step e2 with ⟨r3, rfl, e3⟩ | ⟨a, ha, ha0⟩
    rotate_left
    · have h2 : v ≠ 2 := by
        intro h2
        unfold flagL at ha
        rw [if_pos h2] at ha
        have := congrArg List.length ha
        simp at this
        omega
      rw [if_neg h2]
      have hfl : (flagL v f.st f.fm).length = 2 := by unfold flagL; rw [if_neg h2]; simp [bigL_len]
      have T := R2.take_fell ((2 : Nat) : Int) (by rw [ha, List.length_append] at hfl; omega)
      generalize Rd.take (adv (adv m f.id.length) (sizeL v (lengthF v f)).length) ((2 : Nat) : Int) = z at *
      obtain ⟨z1, z2⟩ := z
      simp only at T ⊢
      rw [T.1.take]
      exact T.1.adv.adv
    have E3 : (if v = 2 then (adv (adv m f.id.length) (sizeL v (lengthF v f)).length, []) else Rd.take (adv (adv m f.id.length) (sizeL v (lengthF v f)).length) ((2 : Nat) : Int))
        = (adv (adv (adv m f.id.length) (sizeL v (lengthF v f)).length) (flagL v f.st f.fm).length, flagL v f.st f.fm) := by
      by_cases h2 : v = 2
      · rw [if_pos h2]; unfold flagL; rw [if_pos h2]; rfl
      · rw [if_neg h2]
        refine R2.take_k _ ?_
        unfold flagL; rw [if_neg h2]; simp [bigL_len]
    rw [E3]
    simp only
    have R3 := R2.adv
    have T := R3.take_fell ((lengthF v f : Nat) : Int) (by rw [← hdl, ← e3, List.length_append]; omega)
    exact T.1.adv.adv.adv
end Go.Proofs.Ytmnmonmbdgedbaa

namespace Go.Proofs.Ytmnmonmbdgedbaa
open Go.RowKit
set_option linter.unusedVariables false
set_option linter.unusedSimpArgs false

def f13 : Fr := ⟨[84, 73, 84, 50], 0, 67, 5, [255, 224], 0⟩
def s13 : List UInt8 := [84, 73, 84, 50, 0, 0, 0, 8, 0, 67, 5, 0, 0, 0, 2, 255, 0, 224]
theorem check13 : checkF 4 f13 = 0 := by decide
theorem print13 : printF 4 f13 = s13 := by decide
theorem parse13 : frParse 4 false (Rd.new s13 0) = (adv (Rd.new s13 0) 18, f13, true) := by
  have h := frParse_run 4 false f13 (Rd.new s13 0) [] check13 (by decide) (fun _ h => by cases h) (by rw [print13, List.append_nil]; exact Run.new _ _)
  rw [print13] at h
  exact h
set_option maxHeartbeats 4000000 in
set_option maxRecDepth 100000 in
theorem awake13 (w : World) : Calls Try.prog 47 #[] w fun e w' => e = .returned (.bool true) ∧ Below w.heap.size w w' := by
  have PR : Hid (∀ w, Calls Try.prog 88 #[.agg #[.string ⟨#[84, 73, 84, 50]⟩, .int .u8 0, .int .u8 67, .int .u8 5, .string ⟨#[255, 224]⟩, .int .i64 0], .int .i64 4] w fun e w' => e = .returned (.tuple #[.string ⟨#[84, 73, 84, 50, 0, 0, 0, 8, 0, 67, 5, 0, 0, 0, 2, 255, 0, 224]⟩, .agg #[.int .i64 0, .int .i64 0]]) ∧ Below w.heap.size w w') :=
    Lib.hid fun w => by
      have h := fprint_any 4 f13 w (by decide) (by decide)
      rw [check13, if_pos rfl, print13] at h
      exact h
  have RD : Hid (∀ w, Calls Try.prog 52 #[.string ⟨#[84, 73, 84, 50, 0, 0, 0, 8, 0, 67, 5, 0, 0, 0, 2, 255, 0, 224]⟩] w fun e w' => e = .returned (.pointer (some ⟨w.heap.size, 0, none⟩)) ∧ RdAt w' w.heap.size (Rd.new s13 0) ∧ Below w.heap.size w w') := Lib.hid fun w => read_any s13 w
  have PP : Hid (∀ b w, RdAt w b (Rd.new s13 0) → Calls Try.prog 89 #[.int .i64 4, .pointer (some ⟨b, 0, none⟩), .bool false] w fun e w' => e = .returned (.tuple #[.agg #[.string ⟨#[84, 73, 84, 50]⟩, .int .u8 0, .int .u8 67, .int .u8 5, .string ⟨#[255, 224]⟩, .int .i64 0], .bool true]) ∧ Only b w w') :=
    Lib.hid fun b w h => by
      have h1 := fparse_any 4 false b _ w h (new_ok _ 0 (by decide) (by decide)) (by decide)
      rw [parse13] at h1
      exact h1.mono fun e w' ⟨h2, _, h3⟩ => ⟨h2, h3⟩
  have BD := Lib.hid (fun w => bad_any 0 0 w)
  rw [show ((0 : Int) != 0) = false by rfl] at BD
  go_enter Try.func47, Try.ntmps47
  go_wp2_with (first | (go_at_call 88; (with_reducible refine (PR.out _).mono ?_); rintro e w1 ⟨rfl, hb1⟩; have X := Lib.hid (block_below (at_a0 w _ _) hb1); have K := Lib.hid (below_a1 hb1); clear hb1) | (go_at_call 52; (with_reducible refine (RD.out _).mono ?_); rintro e w2 ⟨rfl, hr2, hb2⟩; have R : Hid (RdAt w2 (w1.heap.size + 1) (Rd.new s13 0)) := Lib.hid (by simpa using hr2); have F := Lib.hid (block_below (at_a0 w1 _ _) hb2); have hx1 := (Array.getElem?_eq_some_iff.1 X.out).1; have hz1 := K.out.size; replace X := Lib.hid (block_below X.out (below_a1 hb2)); replace K := Lib.hid (nextB K.out (below_a1 hb2)); clear hb2 hr2) | (go_at_call 89; (with_reducible refine (PP.out _ _ R.out).mono ?_); rintro e w3 ⟨rfl, ho3⟩; replace X := Lib.hid (block_only X.out ho3 (by omega)); replace F := Lib.hid (block_only F.out ho3 (by omega)); replace K := Lib.hid (onlyB K.out ho3 (by omega)); clear ho3; clear R) | (go_at_call 90; (with_reducible refine (awake01 _).mono ?_); rintro e w4 ⟨rfl, hb4⟩; have G := Lib.hid (block_below (at_a0 w3 _ _) hb4); replace X := Lib.hid (block_below X.out (below_a1 hb4)); replace F := Lib.hid (block_below F.out (below_a1 hb4)); replace K := Lib.hid (nextB K.out (below_a1 hb4)); clear hb4) | (go_at_call 12; (with_reducible refine (awake11 _).mono ?_); rintro e w5 ⟨rfl, hb5⟩; replace X := Lib.hid (block_below X.out (hb5)); replace F := Lib.hid (block_below F.out (hb5)); replace G := Lib.hid (block_below G.out (hb5)); replace K := Lib.hid (nextB K.out (hb5)); clear hb5; obtain ⟨c0, c1⟩ := cells2 (F.out)) | (go_at_call 16; (with_reducible refine (BD.out _).mono ?_); rintro e w6 ⟨rfl, hb6⟩; replace X := Lib.hid (block_below X.out (hb6)); replace F := Lib.hid (block_below F.out (hb6)); replace G := Lib.hid (block_below G.out (hb6)); replace K := Lib.hid (nextB K.out (hb6)); clear hb6; obtain ⟨d0, d1, d2, d3, d4, d5⟩ := cells6 (X.out); obtain ⟨g0, g1, g2, g3, g4, g5⟩ := cells6 (G.out)))
  go_ret
  exact ⟨rfl, K.out⟩
end Go.Proofs.Ytmnmonmbdgedbaa

namespace Go.Proofs.Ytmnmonmbdgedbaa
open Go.RowKit
set_option linter.unusedVariables false
set_option linter.unusedSimpArgs false

theorem wf_u8 {n : Int} (h : (Lit.int .u8 n).wf = true) : ∃ c : UInt8, n = c.toNat := by
  have h2 : 0 ≤ n ∧ n < 256 := by
    simp [Lit.wf, IntKind.bits, IntKind.signed, IntKind.min, IntKind.max] at h
    omega
  exact ⟨UInt8.ofNat n.toNat, by rw [UInt8.toNat_ofNat']; omega⟩
end Go.Proofs.Ytmnmonmbdgedbaa

namespace Go.Proofs.Ytmnmonmbdgedbaa
open Go.RowKit Go.ChangeShapes Go.WideShapes Go.Deep
set_option linter.unusedVariables false
set_option linter.unusedSimpArgs false

section
variable {H : Type} {enc : TypeId × Value → H} {w : World} {base : Nat} {spare : Nat → Bool} {held : Bool} {fuel : Nat} {cs : List Value} {x : DataW H × List MemPlace}
set_option maxRecDepth 100000 in
theorem fhead_cells {c0 c1 c2 : Value} (h : DataW.trod enc Try.prog w base spare held fuel 45 [c0, c1, c2] = some x) :
    ∃ (id : List UInt8) (st fm : UInt8), c0 = .string ⟨id.toArray⟩ ∧ c1 = .int .u8 st.toNat ∧ c2 = .int .u8 fm.toNat ∧ id.length ≤ maxLen := by
  obtain ⟨xs, n, rfl, hx, hl, hxl, hfs⟩ := DataW.trod_struct Try.underlying45 h
  have hxl3 : xs.length = 3 := hxl
  match xs, hxl3 with
  | [y0, y1, y2], _ =>
    have h0 : DataW.trod enc Try.prog w base spare held n 9 [c0] = some y0 := hfs 0 _ rfl
    have h1 : DataW.trod enc Try.prog w base spare held n 5 [c1] = some y1 := hfs 1 _ rfl
    have h2 : DataW.trod enc Try.prog w base spare held n 5 [c2] = some y2 := hfs 2 _ rfl
    obtain ⟨s0, e0, _, k0⟩ := DataW.trod_string Try.underlying9 h0
    obtain ⟨n1, e1, _, k1⟩ := DataW.trod_int Try.underlying5 h1
    obtain ⟨n2, e2, _, k2⟩ := DataW.trod_int Try.underlying5 h2
    obtain ⟨a1, rfl⟩ := wf_u8 k1
    obtain ⟨a2, rfl⟩ := wf_u8 k2
    obtain ⟨l0, rfl⟩ := bytes_eta s0
    exact ⟨l0, a1, a2, by simpa using e0, by simpa using e1, by simpa using e2, by simpa [ByteArray.size] using k0⟩
set_option maxRecDepth 100000 in
theorem frame_cells (hlen : cs.length = 6) (h : DataW.trod enc Try.prog w base spare held fuel 47 cs = some x) :
    ∃ f : Fr, cs = frR f ∧ f.id.length ≤ maxLen ∧ f.bo.length ≤ maxLen := by
  match cs, hlen with
  | [c0, c1, c2, c3, c4, c5], _ =>
    obtain ⟨xs, n, rfl, hx, hl, hxl, hfs⟩ := DataW.trod_struct Try.underlying47 h
    have hxl4 : xs.length = 4 := hxl
    match xs, hxl4 with
    | [y0, y1, y2, y3], _ =>
      have h0 : DataW.trod enc Try.prog w base spare held n 45 [c0, c1, c2] = some y0 := hfs 0 _ rfl
      have h1 : DataW.trod enc Try.prog w base spare held n 5 [c3] = some y1 := hfs 1 _ rfl
      have h2 : DataW.trod enc Try.prog w base spare held n 9 [c4] = some y2 := hfs 2 _ rfl
      have h3 : DataW.trod enc Try.prog w base spare held n 3 [c5] = some y3 := hfs 3 _ rfl
      obtain ⟨id, st, fm, rfl, rfl, rfl, g1⟩ := fhead_cells h0
      obtain ⟨n3, e3, _, k3⟩ := DataW.trod_int Try.underlying5 h1
      obtain ⟨s4, e4, _, k4⟩ := DataW.trod_string Try.underlying9 h2
      obtain ⟨n5, e5, _, k5⟩ := DataW.trod_int Try.underlying3 h3
      obtain ⟨a3, rfl⟩ := wf_u8 k3
      obtain ⟨l4, rfl⟩ := bytes_eta s4
      obtain rfl : c3 = .int .u8 a3.toNat := by simpa using e3
      obtain rfl : c4 = .string ⟨l4.toArray⟩ := by simpa using e4
      obtain rfl : c5 = .int .i64 n5 := by simpa using e5
      exact ⟨⟨id, st, fm, a3, l4, n5⟩, rfl, g1, by simpa [ByteArray.size] using k4⟩
end
section
variable {H : Type} {enc : TypeId × Value → H} {w : World} {base : Nat} {spare : Nat → Bool} {held : Bool} {v : Value} {d : DataW H} {p : List MemPlace} {r : Reach} {b0 : Nat}
set_option maxRecDepth 100000 in
theorem open_frame (hv : Value.okWide Try.prog w r b0 47 v) (h : DataW.Trod enc Try.prog w base spare held 47 v d p) :
    ∃ f : Fr, v = frV f ∧ f.id.length ≤ maxLen ∧ f.bo.length ≤ maxLen := by
  obtain ⟨cs, rfl, hsz⟩ := okWide_struct Try.underlying47 hv
  have h6 : cs.size = 6 := hsz.trans (by kernel_rfl)
  obtain ⟨fuel, hf⟩ := h
  obtain ⟨q, hq, rest⟩ := frame_cells (cs := cs.toList) (by simpa using h6) (by simpa [Value.cells] using hf)
  exact ⟨q, by unfold frV; rw [← hq], rest⟩
end

theorem print_len_le (v : Int) (f : Fr) (h4 : f.id.length ≤ 4) : (printF v f).length ≤ 2 * f.bo.length + 15 := by
  have h1 := lengthF_le v f
  have h2 := data_len v f
  have h3 := sizeL_len v (lengthF v f)
  rw [printF_eq]
  simp only [List.length_append]
  have h5 : (flagL v f.st f.fm).length ≤ 2 := by unfold flagL; split <;> simp [bigL_len]
  split at h3 <;> omega
end Go.Proofs.Ytmnmonmbdgedbaa

namespace Go.Proofs.Ytmnmonmbdgedbaa
open Go.RowKit
set_option linter.unusedVariables false
set_option linter.unusedSimpArgs false

theorem fail_cd_pos (m : Rd) (p : Int) : (m.fail 1 p).cd ≠ 0 := by
  by_cases h : m.cd = 0
  · rw [Rd.fail_yes m 1 p h (by decide)]; show (1 : Int) ≠ 0; decide
  · rw [Rd.fail_no m 1 p (by simp [h])]; exact h
theorem safe_ok_of {m : Rd} (hm : m.nx ≤ m.t.length) (h : m.safe.1.cd = 0) : m.cd = 0 ∧ m.nx + 4 ≤ m.t.length ∧ m.safe.1 = adv m 4 := by
  unfold Rd.safe at h ⊢
  rcases hf : (m.take 4).2.findIdx? hi with _ | i
  · rw [hf] at h
    simp only at h ⊢
    obtain ⟨h1, h2, h3⟩ := take_ok_of (k := 4) hm h
    exact ⟨h1, h2, by rw [show ((4 : Nat) : Int) = 4 from rfl] at h3; rw [h3]⟩
  · rw [hf] at h
    exact absurd h (fail_cd_pos _ _)
theorem sizeM_ok_of {v : Int} {m : Rd} (hm : m.nx ≤ m.t.length) (h : (sizeM v m).1.cd = 0) : m.cd = 0 ∧ m.nx + (if v = 2 then 3 else 4) ≤ m.t.length ∧ (sizeM v m).1 = adv m (if v = 2 then 3 else 4) := by
  unfold sizeM at h ⊢
  by_cases h2 : v = 2
  · rw [if_pos h2] at h
    rw [if_pos h2, if_pos h2]
    obtain ⟨a, b, c⟩ := take_ok_of (k := 3) hm h
    exact ⟨a, b, by rw [c]⟩
  · rw [if_neg h2] at h
    rw [if_neg h2, if_neg h2]
    by_cases h3 : v = 3
    · rw [if_pos h3] at h
      rw [if_pos h3]
      obtain ⟨a, b, c⟩ := take_ok_of (k := 4) hm h
      exact ⟨a, b, by rw [c]⟩
    · rw [if_neg h3] at h
      rw [if_neg h3]
      exact safe_ok_of hm h
theorem rest_of {m : Rd} (hm : m.nx ≤ m.t.length) (h : m.cd = 0) : m.rest = (adv m (m.t.length - m.nx), m.t.drop m.nx) := by
  have hr : Run m (m.t.drop m.nx) := ⟨h, hm, rfl⟩
  have e := hr.rest
  rwa [List.length_drop] at e
/-- data that is read without a fault -/
theorem fill_sound (v : Int) (fm : UInt8) (data : List UInt8) (at0 : Int) (h : (fillC v fm data at0).1 = 0) :
    (grouped v fm = false → (fillB v fm data at0).1 = 0) ∧ (fillB v fm data at0).2.length ≤ data.length ∧
    (spreadB v fm = false → (if grouped v fm = true then 1 else 0) + (if measured v fm = true then 4 else 0) + (fillB v fm data at0).2.length = data.length) := by
  unfold fillC at h
  unfold fillB
  by_cases hk : locked v fm = true
  · rw [if_pos hk]
    have hg : grouped v fm = false := by unfold grouped; rw [if_pos hk]
    have hm : measured v fm = false := by unfold measured; rw [if_pos hk]; simp
    rw [hg, hm]
    exact ⟨fun _ => rfl, Nat.le_refl _, fun _ => by simp⟩
  rw [if_neg hk] at h
  rw [if_neg hk]
  simp only at h ⊢
  have hcd : (fillM (grouped v fm) (measured v fm) (spreadB v fm) (Rd.new data at0)).m.cd = 0 := by
    by_cases hc : (fillM (grouped v fm) (measured v fm) (spreadB v fm) (Rd.new data at0)).m.cd = 0
    · exact hc
    · rw [if_pos hc] at h; exact absurd h hc
  clear h
  have h0 : (Rd.new data at0).nx ≤ (Rd.new data at0).t.length := Nat.zero_le _
  unfold fillM at hcd ⊢
  simp only at hcd ⊢
  have e1 : ∃ j, ((if grouped v fm = true then (Rd.new data at0).take ((1 : Nat) : Int) else (Rd.new data at0, [])).1.cd = 0 →
      (if grouped v fm = true then (Rd.new data at0).take ((1 : Nat) : Int) else (Rd.new data at0, [])).1 = adv (Rd.new data at0) j ∧ j ≤ data.length) ∧ j = (if grouped v fm = true then 1 else 0) := by
    refine ⟨_, ?_, rfl⟩
    split
    · intro hc
      obtain ⟨a, b, c⟩ := take_ok_of (k := 1) h0 hc
      exact ⟨by rw [c], by have : 0 + 1 ≤ data.length := b; omega⟩
    · intro _; exact ⟨rfl, Nat.zero_le _⟩
  obtain ⟨j, e1, hj⟩ := e1
  rw [← hj]
  generalize (if grouped v fm = true then (Rd.new data at0).take ((1 : Nat) : Int) else (Rd.new data at0, [])) = a1 at *
  have e2 : (if measured v fm = true then a1.1.safe else (a1.1, 0)).1 = adv (Rd.new data at0) (j + (if measured v fm = true then 4 else 0)) ∧ j + (if measured v fm = true then 4 else 0) ≤ data.length := by
    rcases hmm : measured v fm with _ | _
    · rw [hmm] at hcd
      simp only [Bool.false_eq_true, if_false] at hcd ⊢
      exact e1 hcd
    · rw [hmm] at hcd
      simp only [if_true] at hcd ⊢
      by_cases hc1 : a1.1.cd = 0
      · obtain ⟨f1, f2⟩ := e1 hc1
        rw [f1] at hcd ⊢
        obtain ⟨a, b, c⟩ := safe_ok_of (m := adv (Rd.new data at0) j) (by show 0 + j ≤ data.length; omega) hcd
        have b' : 0 + j + 4 ≤ data.length := b
        rw [c, adv_adv]
        exact ⟨rfl, by omega⟩
      · rw [safe_dead hc1] at hcd
        exact absurd hcd hc1
  obtain ⟨e2, hle⟩ := e2
  rw [e2]
  generalize hq : j + (if measured v fm = true then 4 else 0) = q at *
  have er := rest_of (m := adv (Rd.new data at0) q) (by show 0 + q ≤ data.length; omega) rfl
  rw [er]
  simp only
  have hdl : ((adv (Rd.new data at0) q).t.drop (adv (Rd.new data at0) q).nx).length = data.length - q := by
    show (data.drop (0 + q)).length = _
    rw [List.length_drop]; omega
  refine ⟨fun hg => by rw [hg]; rfl, ?_, fun hs => ?_⟩
  · have := sndDrop_len ((adv (Rd.new data at0) q).t.drop (adv (Rd.new data at0) q).nx) false
    split <;> omega
  · rw [hs]
    simp only [Bool.false_eq_true, if_false]
    rw [hdl]
    omega
set_option maxRecDepth 100000 in
theorem tb_or (c : UInt8) : tb (c ||| 2) 2 = true := by
  unfold tb
  have h : ∀ n : Nat, n < 256 → ((UInt8.ofNat n ||| 2).toNat &&& 2) ≠ 0 := by decide
  have e : UInt8.ofNat c.toNat = c := by simp
  have h2 := h c.toNat (UInt8.toNat_lt c)
  rw [e] at h2
  simpa using h2
set_option maxRecDepth 100000 in
theorem or_tb (c : UInt8) (h : tb c 2 = true) : c ||| 2 = c := by
  have h0 : ∀ n : Nat, n < 256 → tb (UInt8.ofNat n) 2 = true → UInt8.ofNat n ||| 2 = UInt8.ofNat n := by decide
  have e : UInt8.ofNat c.toNat = c := by simp
  have h2 := h0 c.toNat (UInt8.toNat_lt c)
  rw [e] at h2
  exact h2 h
theorem frParse_sound (v : Int) (sp : Bool) (m m' : Rd) (f : Fr) (hm : m.nx ≤ m.t.length) (h : frParse v sp m = (m', f, true)) :
    ∃ k, m' = adv m k ∧ 6 ≤ k ∧ m.nx + k ≤ m.t.length ∧ m.cd = 0 ∧ checkF v f = 0 ∧ f.pl = m.bs + m.nx ∧ f.bo.length ≤ k ∧ (v = 4 → sp = true → tb f.fm 2 = true) ∧ (spreadB v f.fm = false → (printF v f).length = k) := by
  unfold frParse at h
  split at h
  · simp at h
  rename_i hg
  simp only [not_or] at hg
  obtain ⟨g0, g1, g2, g3⟩ := hg
  have g1 : m.cd = 0 := by simpa using g1
  have hv := letters_of g0
  unfold frEnd at h
  split at h
  · simp at h
  rename_i h5
  have h5 : (frMain v sp m).m5.cd = 0 := by simpa using h5
  split at h
  · simp at h
  rename_i hf
  have hf : (fillC v (frMain v sp m).fm (frMain v sp m).data (frMain v sp m).at2).1 = 0 := by simpa using hf
  simp only [Prod.mk.injEq, and_true] at h
  obtain ⟨hm', hfe⟩ := h
  obtain ⟨s1, s2, s3⟩ := fill_sound _ _ _ _ hf
  have hfm : f.fm = (frMain v sp m).fm := by rw [← hfe]
  have hbo : f.bo = (fillB v (frMain v sp m).fm (frMain v sp m).data (frMain v sp m).at2).2 := by rw [← hfe]
  have hgr : f.gr = (fillB v (frMain v sp m).fm (frMain v sp m).data (frMain v sp m).at2).1 := by rw [← hfe]
  have hid : f.id = (frMain v sp m).id := by rw [← hfe]
  have hst : f.st = (frMain v sp m).st := by rw [← hfe]
  rw [← hgr, ← hfm] at s1
  rw [← hbo] at s2
  rw [← hbo, ← hfm] at s3
  have hpl : f.pl = m.bs + m.nx := by rw [← hfe]
  clear hfe hf
  -- the steps
  have key : ∃ dl, (frMain v sp m).data.length = dl ∧ (frMain v sp m).m5 = adv m (letters v + ((if v = 2 then 3 else 4) + ((if v = 2 then 0 else 2) + dl))) ∧ m.nx + (letters v + ((if v = 2 then 3 else 4) + ((if v = 2 then 0 else 2) + dl))) ≤ m.t.length ∧
      (frMain v sp m).id.length = letters v ∧ wrongN (frMain v sp m).id = letters v ∧ (v = 2 → (frMain v sp m).st = 0 ∧ (frMain v sp m).fm = 0) ∧ (v = 4 → sp = true → tb (frMain v sp m).fm 2 = true) := by
    unfold frMain at h5 ⊢
    simp only at h5 ⊢
    have hl0 : (m.take ((letters v : Nat) : Int)).1.cd = 0 ∨ (m.take ((letters v : Nat) : Int)).1.cd ≠ 0 := by omega
    have D1 : ∀ r : Rd, r.cd ≠ 0 → ∀ k : Int, (r.take k).1.cd ≠ 0 := fun r hr k => by rw [take_dead hr]; exact hr
    have D2 : ∀ r : Rd, r.cd ≠ 0 → (sizeM v r).1.cd ≠ 0 := fun r hr => by rw [sizeM_dead v hr]; exact hr
    have D3 : ∀ r : Rd, r.cd ≠ 0 → (if v = 2 then (r, ([] : List UInt8)) else r.take ((2 : Nat) : Int)).1.cd ≠ 0 := fun r hr => by split; exact hr; exact D1 r hr _
    by_cases hw : wrongN (m.take ((letters v : Nat) : Int)).2 < (m.take ((letters v : Nat) : Int)).2.length
    · exfalso
      rw [if_pos hw] at h5
      exact D1 _ (D3 _ (D2 _ (fail_cd_pos _ _))) _ h5
    rw [if_neg hw] at h5 ⊢
    rcases hl0 with hl0 | hl0
    rotate_left
    · exfalso
      exact D1 _ (D3 _ (D2 _ hl0)) _ h5
    obtain ⟨_, b1, c1⟩ := take_ok_of hm hl0
    rw [c1] at h5 hw ⊢
    simp only at h5 hw ⊢
    have hlen : ((m.t.drop m.nx).take (letters v)).length = letters v := by rw [List.length_take, List.length_drop]; omega
    have hm1 : (adv m (letters v)).nx ≤ (adv m (letters v)).t.length := b1
    by_cases hs : (sizeM v (adv m (letters v))).1.cd = 0
    rotate_left
    · exfalso
      exact D1 _ (D3 _ hs) _ h5
    obtain ⟨_, b2, c2⟩ := sizeM_ok_of hm1 hs
    generalize hn : (sizeM v (adv m (letters v))).2 = n at *
    rw [c2] at h5 ⊢
    have b2' : m.nx + letters v + (if v = 2 then 3 else 4) ≤ m.t.length := b2
    by_cases h2 : v = 2
    · simp only [if_pos h2] at h5 b2' ⊢
      obtain ⟨_, b3, c3⟩ := take_ok_of (m := adv (adv m (letters v)) 3) (k := n) b2' h5
      have b3' : m.nx + letters v + 3 + n ≤ m.t.length := b3
      rw [c3]
      simp only
      have hdl : (List.take n (List.drop (adv (adv m (letters v)) 3).nx (adv (adv m (letters v)) 3).t)).length = n := by
        rw [List.length_take, List.length_drop]
        show min n (m.t.length - (m.nx + letters v + 3)) = n
        omega
      refine ⟨n, hdl, ?_, by omega, hlen, ?_, ?_, fun h4 => by omega⟩
      · rw [adv_adv, adv_adv]; congr 1; omega
      · have := wrong_le ((m.t.drop m.nx).take (letters v)); omega
      · intro _
        rw [if_neg (by omega)]
        exact ⟨rfl, rfl⟩
    · simp only [if_neg h2] at h5 b2' ⊢
      by_cases hfl : ((adv (adv m (letters v)) 4).take ((2 : Nat) : Int)).1.cd = 0
      rotate_left
      · exfalso
        exact D1 _ hfl _ h5
      obtain ⟨_, b4, c4⟩ := take_ok_of (m := adv (adv m (letters v)) 4) (k := 2) b2' hfl
      rw [c4] at h5 ⊢
      simp only at h5 ⊢
      have b4' : m.nx + letters v + 4 + 2 ≤ m.t.length := b4
      obtain ⟨_, b3, c3⟩ := take_ok_of (m := adv (adv (adv m (letters v)) 4) 2) (k := n) b4' h5
      have b3' : m.nx + letters v + 4 + 2 + n ≤ m.t.length := b3
      rw [c3]
      simp only
      have hdl : (List.take n (List.drop (adv (adv (adv m (letters v)) 4) 2).nx (adv (adv (adv m (letters v)) 4) 2).t)).length = n := by
        rw [List.length_take, List.length_drop]
        show min n (m.t.length - (m.nx + letters v + 4 + 2)) = n
        omega
      refine ⟨n, hdl, ?_, by omega, hlen, ?_, fun h => absurd h h2, ?_⟩
      · rw [adv_adv, adv_adv, adv_adv]
      · have := wrong_le ((m.t.drop m.nx).take (letters v)); omega
      · intro h4 hsp
        rw [if_pos ⟨h4, hsp⟩]
        exact tb_or _
  obtain ⟨dl, k1, k2, k3, k4, k5, k6, k7⟩ := key
  have hl3 : 3 ≤ letters v := by rcases hv with rfl | rfl | rfl <;> decide
  refine ⟨_, by rw [← hm', k2], ?_, k3, g1, ?_, hpl, ?_, by rw [hfm]; exact k7, fun hsp => ?_⟩
  · split <;> omega
  · unfold checkF
    rw [if_pos]
    unfold okF named wfB wgB nz
    have e1 : decide (0 < letters v) = true := by simpa using (by omega : 0 < letters v)
    have e2 : decide (f.id.length = letters v) = true := by rw [hid]; simpa using k4
    have e3 : decide (wrongN f.id = letters v) = true := by rw [hid]; simpa using k5
    rw [e1, e2, e3]
    have e4 : ((v == 2) && (((f.st.toNat : Int) != 0) || ((f.fm.toNat : Int) != 0))) = false := by
      by_cases h2 : v = 2
      · obtain ⟨x1, x2⟩ := k6 h2
        rw [hst, hfm, x1, x2]
        simp
      · simp [h2]
    have e5 : (((f.gr.toNat : Int) != 0) && !grouped v f.fm) = false := by
      rcases hg : grouped v f.fm with _ | _
      · rw [s1 hg]; rfl
      · simp
    rw [e4, e5]
    rfl
  · omega
  · have hlf := s3 hsp
    rw [printF_eq]
    simp only [List.length_append]
    rw [data_len, sizeL_len]
    have hfl : (flagL v f.st f.fm).length = if v = 2 then 0 else 2 := by unfold flagL; split <;> simp [bigL_len]
    rw [hfl, hid, k4]
    unfold lengthF
    rw [hsp]
    simp only [Bool.false_eq_true, if_false]
    rw [k1] at hlf
    split <;> split <;> split <;> simp_all <;> omega
end Go.Proofs.Ytmnmonmbdgedbaa
