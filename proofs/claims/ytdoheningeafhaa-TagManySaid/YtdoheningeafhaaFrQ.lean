/- Layer 13 (frame): what is printed is read as it was; a frame that is cut off isn't read (plain). | Layer 13 (frame): the document's example. | Layer 13 (frame): the walk of the statement FrameFlags. | Layer 13 (frame): frames that come in as arguments; the walk of the statement FramePrints. -/
import Derived.Test.YtdoheningeafhaaFr10
import Derived.Test.YtdoheningeafhaaFr15
import Derived.Laws.StructEq
import Derived.OpenShut
import Derived.Deep.Slices
import Derived.Deep.RegionHeld3

namespace Go.Proofs.Ytdoheningeafhaa
open Go.RowKit
set_option linter.unusedVariables false
set_option linter.unusedSimpArgs false

theorem low_find {l : List UInt8} (h : Low7 l) : l.findIdx? hi = none := by rw [List.findIdx?_eq_none_iff]; exact h
theorem Run.safe {m : Rd} {r : List UInt8} (n : Nat) (h : Run m (safeL n ++ r)) (hn : n ≤ 268435455) : m.safe = (Go.Proofs.Ytdoheningeafhaa.adv m 4, (n : Int)) := by
  have e := h.take_k 4 (by rw [safeL_length]; rfl)
  unfold Rd.safe
  rw [e]
  simp only [low_find (safeL_low n), num7_safeL n hn, safeL_length]
theorem Run.safe_fell {m : Rd} {r : List UInt8} (h : Run m r) (hk : r.length < 4) : Fell m m.safe.1 := by
  have e := h.take_fell 4 (by omega)
  unfold Rd.safe
  rw [e.2]
  exact e.1
theorem Run.rest {m : Rd} {r : List UInt8} (h : Run m r) : m.rest = (Go.Proofs.Ytdoheningeafhaa.adv m r.length, r) := by
  unfold Rd.rest
  rw [h.left]
  exact Run.take (by rw [List.append_nil]; exact h)
theorem Run.peek1 {m : Rd} {c : UInt8} {r : List UInt8} (h : Run m (c :: r)) : m.peek 1 = [c] := by
  unfold Rd.peek
  rw [if_pos h.1, h.2.2]
  rfl
theorem Run.cons {m : Rd} {r r' : List UInt8} (h : Run m r) (e : r = r') : Run m r' := e ▸ h

theorem letters_le (v : Int) : letters v ≤ 4 := by unfold letters; split; decide; split; decide; split; decide; decide
theorem bad_zero : badC 0 = true := by decide
/-- a name's bytes are letters -/
theorem named_good {id : List UInt8} (h : wrongN id = id.length) : ∀ c ∈ id, badC c = false := by
  intro c hc
  unfold wrongN at h
  have := List.findIdx_eq_length.1 h c hc
  simpa using this
theorem named_pos {v : Int} {id : List UInt8} (h : named v id = true) : 3 ≤ id.length ∧ id.length ≤ 4 ∧ wrongN id = id.length := by
  obtain ⟨hv, h1, h2⟩ := named_ok h
  rw [h2, h1]
  refine ⟨?_, letters_le v, rfl⟩
  rcases hv with rfl | rfl | rfl <;> decide
/-- the head behind a name: the flags -/
def flagL (v : Int) (st fm : UInt8) : List UInt8 := if v = 2 then [] else bigL st.toNat 1 ++ bigL fm.toNat 1
theorem bigL_1 (c : UInt8) : bigL c.toNat 1 = [c] := by
  have hc := UInt8.toNat_lt c
  simp [bigL, smallL]
theorem flag_num (st fm : UInt8) : UInt8.ofNat (numL [st, fm] / 256) = st ∧ UInt8.ofNat (numL [st, fm] % 256) = fm := by
  have h1 := UInt8.toNat_lt st
  have h2 := UInt8.toNat_lt fm
  have e : numL [st, fm] = st.toNat * 256 + fm.toNat := by simp [numL]
  rw [e, show (st.toNat * 256 + fm.toNat) / 256 = st.toNat by omega, show (st.toNat * 256 + fm.toNat) % 256 = fm.toNat by omega]
  simp
theorem sizeL_len (v : Int) (n : Nat) : (sizeL v n).length = if v = 2 then 3 else 4 := by
  unfold sizeL
  split
  · exact bigL_len 3 n
  · split
    · exact bigL_len 4 n
    · exact safeL_length n
theorem Run.size {v : Int} {m : Rd} {r : List UInt8} (n : Nat) (h : Run m (sizeL v n ++ r)) (hn : n ≤ 16777215) : sizeM v m = (Go.Proofs.Ytdoheningeafhaa.adv m (sizeL v n).length, n) := by
  unfold sizeM
  unfold sizeL at h ⊢
  by_cases h2 : v = 2
  · rw [if_pos h2] at h ⊢
    rw [if_pos h2, h.take_k _ (by rw [bigL_len]), numL_bigL]
    simp only [Prod.mk.injEq, true_and]
    omega
  · rw [if_neg h2] at h ⊢
    rw [if_neg h2]
    by_cases h3 : v = 3
    · rw [if_pos h3] at h ⊢
      rw [if_pos h3, h.take_k _ (by rw [bigL_len]), numL_bigL]
      simp only [Prod.mk.injEq, true_and]
      omega
    · rw [if_neg h3] at h ⊢
      rw [if_neg h3, h.safe n (by omega), safeL_length]
      simp
theorem Run.size_fell {v : Int} {m : Rd} {r : List UInt8} (h : Run m r) (hk : r.length < (if v = 2 then 3 else 4)) : Fell m (sizeM v m).1 := by
  unfold sizeM
  by_cases h2 : v = 2
  · rw [if_pos h2] at hk ⊢
    exact (h.take_fell _ (by omega)).1
  · rw [if_neg h2] at hk ⊢
    by_cases h3 : v = 3
    · rw [if_pos h3]
      exact (h.take_fell _ (by omega)).1
    · rw [if_neg h3]
      exact h.safe_fell hk
theorem Fell.size {m m' : Rd} (v : Int) (h : Fell m m') : sizeM v m' = (m', 0) := sizeM_dead v h.cd
theorem gr_zero {v : Int} {f : Fr} (hc : checkF v f = 0) (hg : grouped v f.fm = false) : f.gr = 0 := by
  have h := (checkF_ok hc).2.2
  unfold wgB nz at h
  rw [hg] at h
  simp at h
  rw [u8_eq]
  simp
  omega
/-- a frame's data is read as it was -/
theorem fill_run (v : Int) (f : Fr) (at0 : Int) (hc : checkF v f = 0) (hl : f.bo.length ≤ 8000000) : fillC v f.fm (dataL v f) at0 = (0, 0) ∧ fillB v f.fm (dataL v f) at0 = (f.gr, f.bo) := by
  unfold fillC fillB
  by_cases hk : locked v f.fm = true
  · rw [if_pos hk, if_pos hk]
    have hg : grouped v f.fm = false := by unfold grouped; rw [if_pos hk]
    have hm : measured v f.fm = false := by unfold measured; rw [if_pos hk]; simp
    have hs : spreadB v f.fm = false := by unfold spreadB; rw [if_pos hk]; simp
    unfold dataL
    rw [hg, hm, hs, gr_zero hc hg]
    simp
  rw [if_neg hk, if_neg hk]
  have R0 := Run.new (dataL v f) at0
  have hd : sndDrop false (sndPut f.bo) = f.bo := drop_put f.bo false (fun h => by cases h)
  have hg0 : grouped v f.fm = false → f.gr = 0 := gr_zero hc
  have hgn : UInt8.ofNat (numL (bigL f.gr.toNat 1)) = f.gr := by rw [bigL_1]; simp [numL]
  unfold fillM
  have key : ∀ (m1 : Rd) (s : List UInt8), Run m1 s → s = (if measured v f.fm = true then safeL f.bo.length else []) ++ (if spreadB v f.fm = true then sndPut f.bo else f.bo) →
      let a2 := if measured v f.fm = true then m1.safe else (m1, 0)
      (a2.1.cd = 0) ∧ (measured v f.fm = true → a2.2 = f.bo.length) ∧ (if spreadB v f.fm = true then sndDrop false a2.1.rest.2 else a2.1.rest.2) = f.bo := by
    intro m1 s R hs
    subst hs
    rcases hm : measured v f.fm with _ | _
    · rw [hm] at R
      simp only [Bool.false_eq_true, if_false, List.nil_append] at R ⊢
      rw [R.rest]
      refine ⟨R.1, by simp, ?_⟩
      split
      · rename_i h; simp only [h, if_true]; exact hd
      · rename_i h; simp only [h, if_false]
    · rw [hm] at R
      simp only [if_true] at R ⊢
      rw [R.safe _ (by omega)]
      have R2 := R.adv
      rw [safeL_length] at R2
      simp only
      rw [R2.rest]
      refine ⟨R2.1, by simp, ?_⟩
      split
      · rename_i h; simp only [h, if_true]; exact hd
      · rename_i h; simp only [h, if_false]
  rcases hg : grouped v f.fm with _ | _
  · have e : dataL v f = (if measured v f.fm = true then safeL f.bo.length else []) ++ (if spreadB v f.fm = true then sndPut f.bo else f.bo) := by unfold dataL; rw [hg]; simp
    have k := key _ _ R0 e
    simp only [Bool.false_eq_true, if_false] at k ⊢
    obtain ⟨k1, k2, k3⟩ := k
    rw [k3, k1, hg0 hg]
    refine ⟨?_, rfl⟩
    rw [if_neg (by simp)]
    rw [if_neg (by rintro ⟨h1, h2⟩; exact h2 (by rw [k2 h1]))]
  · have e : dataL v f = bigL f.gr.toNat 1 ++ ((if measured v f.fm = true then safeL f.bo.length else []) ++ (if spreadB v f.fm = true then sndPut f.bo else f.bo)) := by unfold dataL; rw [hg]; simp
    have R1 : Run (Rd.new (dataL v f) at0) (bigL f.gr.toNat 1 ++ ((if measured v f.fm = true then safeL f.bo.length else []) ++ (if spreadB v f.fm = true then sndPut f.bo else f.bo))) := R0.cons e
    have T := R1.take_k ((1 : Nat) : Int) (by rw [bigL_len])
    have k := key _ _ R1.adv rfl
    simp only [if_true] at k ⊢
    rw [T]
    simp only
    obtain ⟨k1, k2, k3⟩ := k
    rw [k3, k1, hgn]
    refine ⟨?_, rfl⟩
    rw [if_neg (by simp)]
    rw [if_neg (by rintro ⟨h1, h2⟩; exact h2 (by rw [k2 h1]))]
theorem printF_eq (v : Int) (f : Fr) : printF v f = f.id ++ (sizeL v (lengthF v f) ++ (flagL v f.st f.fm ++ dataL v f)) := rfl
theorem data_len (v : Int) (f : Fr) : (dataL v f).length = lengthF v f := by
  unfold dataL lengthF
  have := sndPut_len f.bo
  split <;> split <;> split <;> simp [bigL_len, safeL_length, this] <;> omega
/-- the four steps of a frame's head and data, at a reader that stands at a frame's bytes -/
theorem main_run (v : Int) (sp : Bool) (f : Fr) (m : Rd) (r : List UInt8) (hc : checkF v f = 0) (hl : f.bo.length ≤ 8000000) (hs : v = 4 → sp = true → f.fm ||| 2 = f.fm) (h : Run m (printF v f ++ r)) :
    frMain v sp m = ⟨adv m f.id.length, adv m (printF v f).length, f.id, f.st, f.fm, m.bs + m.nx + ((printF v f).length - lengthF v f : Nat), dataL v f⟩ := by
  obtain ⟨hn, h2a, h2b⟩ := checkF_ok hc
  obtain ⟨hv, hi, hw⟩ := named_ok hn
  obtain ⟨hp1, hp2, hp3⟩ := named_pos hn
  have hle := lengthF_le v f
  have hdl := data_len v f
  have R0 : Run m (f.id ++ (sizeL v (lengthF v f) ++ (flagL v f.st f.fm ++ (dataL v f ++ r)))) := by rw [printF_eq] at h; simpa [List.append_assoc] using h
  have R1 := R0.adv
  have R2 := R1.adv
  have R3 := R2.adv
  have R4 := R3.adv
  have hplen : (printF v f).length = f.id.length + ((sizeL v (lengthF v f)).length + ((flagL v f.st f.fm).length + (dataL v f).length)) := by rw [printF_eq]; simp only [List.length_append]
  unfold frMain
  rw [R0.take_k _ (by rw [hi])]
  simp only
  rw [if_neg (by rw [hp3]; omega), R1.size _ (by omega)]
  simp only
  have e3 : (if v = 2 then (adv (adv m f.id.length) (sizeL v (lengthF v f)).length, []) else Rd.take (adv (adv m f.id.length) (sizeL v (lengthF v f)).length) ((2 : Nat) : Int))
      = (adv (adv (adv m f.id.length) (sizeL v (lengthF v f)).length) (flagL v f.st f.fm).length, flagL v f.st f.fm) := by
    by_cases h2 : v = 2
    · rw [if_pos h2]; unfold flagL; rw [if_pos h2]; rfl
    · rw [if_neg h2]
      refine R2.take_k _ ?_
      unfold flagL; rw [if_neg h2]; simp [bigL_len]
  rw [e3]
  simp only
  rw [R3.take_k _ (by rw [hdl])]
  simp only
  have e4 : UInt8.ofNat (numL (flagL v f.st f.fm) / 256) = f.st ∧ UInt8.ofNat (numL (flagL v f.st f.fm) % 256) = f.fm := by
    unfold flagL
    by_cases h2 : v = 2
    · rw [if_pos h2]
      unfold wfB nz at h2a
      subst h2
      simp at h2a
      have e1 : f.st = 0 := by rw [u8_eq]; simp; omega
      have e2 : f.fm = 0 := by rw [u8_eq]; simp; omega
      rw [e1, e2]
      exact ⟨rfl, rfl⟩
    · rw [if_neg h2, bigL_1, bigL_1]
      exact flag_num f.st f.fm
  rw [e4.1, e4.2]
  have e5 : (if v = 4 ∧ sp = true then f.fm ||| 2 else f.fm) = f.fm := by
    split
    · rename_i h; exact hs h.1 h.2
    · rfl
  rw [e5]
  rw [adv_adv, adv_adv, adv_adv]
  simp only [Fp.mk.injEq, true_and, and_true]
  refine ⟨?_, ?_⟩
  · rw [hplen]
  · show m.bs + ((m.nx + f.id.length + (sizeL v (lengthF v f)).length + (flagL v f.st f.fm).length : Nat) : Int) = _
    rw [hplen, hdl]
    omega
theorem print_head (v : Int) (f : Fr) (hc : checkF v f = 0) : ∃ c t, printF v f = c :: t ∧ c ≠ 0 := by
  obtain ⟨hn, _⟩ := checkF_ok hc
  obtain ⟨hp1, hp2, hp3⟩ := named_pos hn
  have hg := named_good hp3
  rw [printF_eq]
  match hid : f.id, hp1 with
  | c :: t, _ =>
    refine ⟨c, _, rfl, ?_⟩
    intro e
    have := hg c (by rw [hid]; simp)
    rw [e, bad_zero] at this
    cases this
theorem frParse_run (v : Int) (sp : Bool) (f : Fr) (m : Rd) (r : List UInt8) (hc : checkF v f = 0) (hl : f.bo.length ≤ 8000000) (hs : v = 4 → sp = true → f.fm ||| 2 = f.fm) (h : Run m (printF v f ++ r)) :
    frParse v sp m = (adv m (printF v f).length, { f with pl := m.bs + m.nx }, true) := by
  obtain ⟨hn, _⟩ := checkF_ok hc
  obtain ⟨hv, hi, hw⟩ := named_ok hn
  obtain ⟨c, t, hct, hc0⟩ := print_head v f hc
  have h' : Run m (c :: (t ++ r)) := by rw [hct] at h; exact h
  have g0 : letters v ≠ 0 := by have := named_pos hn; omega
  have g2 : m.left ≠ 0 := by rw [h'.left]; simp; omega
  have g3 : m.peek 1 ≠ [0] := by rw [h'.peek1]; simpa using hc0
  unfold frParse
  rw [if_neg (by simp [g0, h.1, g2, g3]), main_run v sp f m r hc hl hs h]
  unfold frEnd
  have hfl := fill_run v f (m.bs + m.nx + ((printF v f).length - lengthF v f : Nat)) hc hl
  simp only [hfl.1, hfl.2]
  rw [if_neg (by simp [adv, h.1]), if_neg (by simp)]
/-- a frame that is cut off isn't read -/
theorem frParse_cut (v : Int) (sp : Bool) (f : Fr) (m : Rd) (r q : List UInt8) (hc : checkF v f = 0) (hl : f.bo.length ≤ 8000000) (h : Run m r) (hr : r ≠ []) (hq : 0 < q.length) (e : r ++ q = printF v f) :
    ∃ m', frParse v sp m = (m', zeroF, false) ∧ Fell m m' := by
  obtain ⟨hn, _⟩ := checkF_ok hc
  obtain ⟨hv, hi, hw⟩ := named_ok hn
  obtain ⟨hp1, hp2, hp3⟩ := named_pos hn
  obtain ⟨c, t, hct, hc0⟩ := print_head v f hc
  have hle := lengthF_le v f
  have hdl := data_len v f
  match r, hr with
  | d :: r, _ =>
    have hdc : d = c := by rw [hct] at e; simp at e; exact e.1
    subst hdc
    have g0 : letters v ≠ 0 := by omega
    have g2 : m.left ≠ 0 := by rw [h.left]; simp; omega
    have g3 : m.peek 1 ≠ [0] := by rw [h.peek1]; simpa using hc0
    unfold frParse
    rw [if_neg (by simp [g0, h.1, g2, g3])]
    have key : Fell m (frMain v sp m).m5 → ∃ m', frEnd v m (frMain v sp m) = (m', zeroF, false) ∧ Fell m m' := by
      intro k
      unfold frEnd
      rw [if_pos k.cd]
      exact ⟨_, rfl, k⟩
    refine key ?_
    generalize hrr : d :: r = r0 at h e
    clear hrr g0 g2 g3
    rw [printF_eq] at e
    unfold frMain
    rcases cut_step e with ⟨r1, rfl, e1⟩ | ⟨a, ha, ha0⟩
    rotate_left
    · have T := h.take_fell ((letters v : Nat) : Int) (by rw [← hi, ha, List.length_append]; omega)
      have w0 : ¬ wrongN (m.take ((letters v : Nat) : Int)).2 < (m.take ((letters v : Nat) : Int)).2.length := by rw [T.2]; simp
      simp only [if_neg w0, T.1.size]
      have T4 : (if v = 2 then ((m.take ((letters v : Nat) : Int)).1, []) else Rd.take (m.take ((letters v : Nat) : Int)).1 ((2 : Nat) : Int)) = ((m.take ((letters v : Nat) : Int)).1, []) := by
        split
        · rfl
        · exact T.1.take _
      rw [T4]
      simp only
      rw [T.1.take]
      exact T.1
    have w1 : ¬ wrongN f.id < f.id.length := by rw [hp3]; omega
    simp only [h.take_k _ (show (f.id.length : Int) = ((letters v : Nat) : Int) by rw [hi]), if_neg w1]
    have R1 := h.adv
    rcases cut_step e1 with ⟨r2, rfl, e2⟩ | ⟨a, ha, ha0⟩
    rotate_left
    · have hll := sizeL_len v (lengthF v f)
      have T := R1.size_fell (v := v) (by rw [← hll, ha, List.length_append]; omega)
      have T9 : sizeM v (adv m f.id.length) = ((sizeM v (adv m f.id.length)).1, (sizeM v (adv m f.id.length)).2) := rfl
      generalize sizeM v (adv m f.id.length) = z at *
      obtain ⟨z1, z2⟩ := z
      simp only at T ⊢
      have T4 : (if v = 2 then (z1, []) else Rd.take z1 ((2 : Nat) : Int)) = (z1, []) := by
        split
        · rfl
        · exact T.take _
      rw [T4]
      simp only
      rw [T.take]
      exact T.adv
    rw [R1.size _ (by omega)]
    simp only
    have R2 := R1.adv
    rcases cut_step e2 with ⟨r3, rfl, e3⟩ | ⟨a, ha, ha0⟩
    rotate_left
    · have h2 : v ≠ 2 := by
        intro h2
        unfold flagL at ha
        rw [if_pos h2] at ha
        have := congrArg List.length ha
        simp at this
        omega
      rw [if_neg h2]
      have hfl : (flagL v f.st f.fm).length = 2 := by unfold flagL; rw [if_neg h2]; simp [bigL_len]
      have T := R2.take_fell ((2 : Nat) : Int) (by rw [ha, List.length_append] at hfl; omega)
      generalize Rd.take (adv (adv m f.id.length) (sizeL v (lengthF v f)).length) ((2 : Nat) : Int) = z at *
      obtain ⟨z1, z2⟩ := z
      simp only at T ⊢
      rw [T.1.take]
      exact T.1.adv.adv
    have E3 : (if v = 2 then (adv (adv m f.id.length) (sizeL v (lengthF v f)).length, []) else Rd.take (adv (adv m f.id.length) (sizeL v (lengthF v f)).length) ((2 : Nat) : Int))
        = (adv (adv (adv m f.id.length) (sizeL v (lengthF v f)).length) (flagL v f.st f.fm).length, flagL v f.st f.fm) := by
      by_cases h2 : v = 2
      · rw [if_pos h2]; unfold flagL; rw [if_pos h2]; rfl
      · rw [if_neg h2]
        refine R2.take_k _ ?_
        unfold flagL; rw [if_neg h2]; simp [bigL_len]
    rw [E3]
    simp only
    have R3 := R2.adv
    have T := R3.take_fell ((lengthF v f : Nat) : Int) (by rw [← hdl, ← e3, List.length_append]; omega)
    exact T.1.adv.adv.adv
end Go.Proofs.Ytdoheningeafhaa

namespace Go.Proofs.Ytdoheningeafhaa
open Go.RowKit
set_option linter.unusedVariables false
set_option linter.unusedSimpArgs false

def f13 : Fr := ⟨[84, 73, 84, 50], 0, 67, 5, [255, 224], 0⟩
def s13 : List UInt8 := [84, 73, 84, 50, 0, 0, 0, 8, 0, 67, 5, 0, 0, 0, 2, 255, 0, 224]
theorem check13 : checkF 4 f13 = 0 := by decide
theorem print13 : printF 4 f13 = s13 := by decide
theorem parse13 : frParse 4 false (Rd.new s13 0) = (adv (Rd.new s13 0) 18, f13, true) := by
  have h := frParse_run 4 false f13 (Rd.new s13 0) [] check13 (by decide) (fun _ h => by cases h) (by rw [print13, List.append_nil]; exact Run.new _ _)
  rw [print13] at h
  exact h
set_option maxHeartbeats 4000000 in
set_option maxRecDepth 100000 in
theorem awake13 (w : World) : Calls Try.prog 74 #[] w fun e w' => e = .returned (.bool true) ∧ Below w.heap.size w w' := by
  have PR : Hid (∀ w, Calls Try.prog 39 #[.agg #[.string ⟨#[84, 73, 84, 50]⟩, .int .u8 0, .int .u8 67, .int .u8 5, .string ⟨#[255, 224]⟩, .int .i64 0], .int .i64 4] w fun e w' => e = .returned (.tuple #[.string ⟨#[84, 73, 84, 50, 0, 0, 0, 8, 0, 67, 5, 0, 0, 0, 2, 255, 0, 224]⟩, .agg #[.int .i64 0, .int .i64 0]]) ∧ Below w.heap.size w w') :=
    Lib.hid fun w => by
      have h := fprint_any 4 f13 w (by decide) (by decide)
      rw [check13, if_pos rfl, print13] at h
      exact h
  have RD : Hid (∀ w, Calls Try.prog 43 #[.string ⟨#[84, 73, 84, 50, 0, 0, 0, 8, 0, 67, 5, 0, 0, 0, 2, 255, 0, 224]⟩] w fun e w' => e = .returned (.pointer (some ⟨w.heap.size, 0, none⟩)) ∧ RdAt w' w.heap.size (Rd.new s13 0) ∧ Below w.heap.size w w') := Lib.hid fun w => read_any s13 w
  have PP : Hid (∀ b w, RdAt w b (Rd.new s13 0) → Calls Try.prog 44 #[.int .i64 4, .pointer (some ⟨b, 0, none⟩), .bool false] w fun e w' => e = .returned (.tuple #[.agg #[.string ⟨#[84, 73, 84, 50]⟩, .int .u8 0, .int .u8 67, .int .u8 5, .string ⟨#[255, 224]⟩, .int .i64 0], .bool true]) ∧ Only b w w') :=
    Lib.hid fun b w h => by
      have h1 := fparse_any 4 false b _ w h (new_ok _ 0 (by decide) (by decide)) (by decide)
      rw [parse13] at h1
      exact h1.mono fun e w' ⟨h2, _, h3⟩ => ⟨h2, h3⟩
  have BD := Lib.hid (fun w => bad_any 0 0 w)
  rw [show ((0 : Int) != 0) = false by rfl] at BD
  go_enter Try.func74, Try.ntmps74
  go_wp2_with (first | (go_at_call 39; (with_reducible refine (PR.out _).mono ?_); rintro e w1 ⟨rfl, hb1⟩; have X := Lib.hid (block_below (at_a0 w _ _) hb1); have K := Lib.hid (below_a1 hb1); clear hb1) | (go_at_call 43; (with_reducible refine (RD.out _).mono ?_); rintro e w2 ⟨rfl, hr2, hb2⟩; have R : Hid (RdAt w2 (w1.heap.size + 1) (Rd.new s13 0)) := Lib.hid (by simpa using hr2); have F := Lib.hid (block_below (at_a0 w1 _ _) hb2); have hx1 := (Array.getElem?_eq_some_iff.1 X.out).1; have hz1 := K.out.size; replace X := Lib.hid (block_below X.out (below_a1 hb2)); replace K := Lib.hid (nextB K.out (below_a1 hb2)); clear hb2 hr2) | (go_at_call 44; (with_reducible refine (PP.out _ _ R.out).mono ?_); rintro e w3 ⟨rfl, ho3⟩; replace X := Lib.hid (block_only X.out ho3 (by omega)); replace F := Lib.hid (block_only F.out ho3 (by omega)); replace K := Lib.hid (onlyB K.out ho3 (by omega)); clear ho3; clear R) | (go_at_call 116; (with_reducible refine (awake01 _).mono ?_); rintro e w4 ⟨rfl, hb4⟩; have G := Lib.hid (block_below (at_a0 w3 _ _) hb4); replace X := Lib.hid (block_below X.out (below_a1 hb4)); replace F := Lib.hid (block_below F.out (below_a1 hb4)); replace K := Lib.hid (nextB K.out (below_a1 hb4)); clear hb4) | (go_at_call 17; (with_reducible refine (awake11 _).mono ?_); rintro e w5 ⟨rfl, hb5⟩; replace X := Lib.hid (block_below X.out (hb5)); replace F := Lib.hid (block_below F.out (hb5)); replace G := Lib.hid (block_below G.out (hb5)); replace K := Lib.hid (nextB K.out (hb5)); clear hb5; have c0 := cell_at (j := 0) F.out; have c1 := cell_at (j := 1) F.out; simp only [List.getElem?_toArray, List.getElem?_cons_zero, List.getElem?_cons_succ] at c0 c1) | (go_at_call 21; (with_reducible refine (BD.out _).mono ?_); rintro e w6 ⟨rfl, hb6⟩; replace X := Lib.hid (block_below X.out (hb6)); replace F := Lib.hid (block_below F.out (hb6)); replace G := Lib.hid (block_below G.out (hb6)); replace K := Lib.hid (nextB K.out (hb6)); clear hb6; have d0 := cell_at (j := 0) X.out; have d1 := cell_at (j := 1) X.out; have d2 := cell_at (j := 2) X.out; have d3 := cell_at (j := 3) X.out; have d4 := cell_at (j := 4) X.out; have d5 := cell_at (j := 5) X.out; simp only [List.getElem?_toArray, List.getElem?_cons_zero, List.getElem?_cons_succ] at d0 d1 d2 d3 d4 d5; have g0 := cell_at (j := 0) G.out; have g1 := cell_at (j := 1) G.out; have g2 := cell_at (j := 2) G.out; have g3 := cell_at (j := 3) G.out; have g4 := cell_at (j := 4) G.out; have g5 := cell_at (j := 5) G.out; simp only [List.getElem?_toArray, List.getElem?_cons_zero, List.getElem?_cons_succ] at g0 g1 g2 g3 g4 g5))
  go_ret
  exact ⟨rfl, K.out⟩
set_option maxRecDepth 100000 in
theorem awake13' (w : World) : Calls Try.prog 26 #[] w fun e w' => e = .returned (.bool true) ∧ Below w.heap.size w w' := by
  go_enter Try.func26, Try.ntmps26
  go_wp2_with (go_at_call 74; refine (awake13 _).mono ?_; rintro e w1 ⟨rfl, hb1⟩)
  go_ret
  exact ⟨rfl, hb1⟩
end Go.Proofs.Ytdoheningeafhaa

namespace Go.Proofs.Ytdoheningeafhaa
open Go.RowKit
set_option linter.unusedVariables false
set_option linter.unusedSimpArgs false

theorem wf_u8 {n : Int} (h : (Lit.int .u8 n).wf = true) : ∃ c : UInt8, n = c.toNat := by
  have h2 : 0 ≤ n ∧ n < 256 := by
    simp [Lit.wf, IntKind.bits, IntKind.signed, IntKind.min, IntKind.max] at h
    omega
  exact ⟨UInt8.ofNat n.toNat, by rw [UInt8.toNat_ofNat']; omega⟩
set_option maxHeartbeats 4000000 in
set_option maxRecDepth 100000 in
theorem fflags_in (v : Int) (fm : UInt8) (id : List UInt8) (b1 b2 b3 b4 b5 : Bool) (n : Nat) (w : World) (hl : ¬ (100 : Int) < id.length)
    (LK : Hid (∀ w, Calls Try.prog 27 #[.agg #[.string ⟨id.toArray⟩, .int .u8 0, .int .u8 fm.toNat], .int .i64 v] w fun e w' => e = .returned (.bool b1) ∧ Below w.heap.size w w'))
    (GR : Hid (∀ w, Calls Try.prog 29 #[.agg #[.string ⟨id.toArray⟩, .int .u8 0, .int .u8 fm.toNat], .int .i64 v] w fun e w' => e = .returned (.bool b2) ∧ Below w.heap.size w w'))
    (ME : Hid (∀ w, Calls Try.prog 31 #[.agg #[.string ⟨id.toArray⟩, .int .u8 0, .int .u8 fm.toNat], .int .i64 v] w fun e w' => e = .returned (.bool b3) ∧ Below w.heap.size w w'))
    (SP : Hid (∀ w, Calls Try.prog 33 #[.agg #[.string ⟨id.toArray⟩, .int .u8 0, .int .u8 fm.toNat], .int .i64 v] w fun e w' => e = .returned (.bool b4) ∧ Below w.heap.size w w'))
    (LT : Hid (∀ w, Calls Try.prog 35 #[.int .i64 v] w fun e w' => e = .returned (.int .i64 n) ∧ w = w'))
    (NM : Hid (∀ w, Calls Try.prog 37 #[.int .i64 v, .string ⟨id.toArray⟩] w fun e w' => e = .returned (.bool b5) ∧ w = w'))
    (RLK : Hid (∀ w, Calls Try.prog 28 #[.int .i64 v, .int .i64 fm.toNat] w fun e w' => e = .returned (.bool b1) ∧ w = w'))
    (RGR : Hid (∀ w, Calls Try.prog 30 #[.int .i64 v, .int .i64 fm.toNat] w fun e w' => e = .returned (.bool b2) ∧ w = w'))
    (RME : Hid (∀ w, Calls Try.prog 32 #[.int .i64 v, .int .i64 fm.toNat] w fun e w' => e = .returned (.bool b3) ∧ w = w'))
    (RSP : Hid (∀ w, Calls Try.prog 34 #[.int .i64 v, .int .i64 fm.toNat] w fun e w' => e = .returned (.bool b4) ∧ w = w'))
    (RLT : Hid (∀ w, Calls Try.prog 36 #[.int .i64 v] w fun e w' => e = .returned (.int .i64 n) ∧ w = w'))
    (RNM : Hid (∀ w, Calls Try.prog 38 #[.int .i64 v, .string ⟨id.toArray⟩] w fun e w' => e = .returned (.bool b5) ∧ w = w')) :
    Calls Try.prog 4 #[.int .i64 v, .int .u8 fm.toNat, .string ⟨id.toArray⟩] w fun e w' => e = .returned (.bool true) ∧ Below w.heap.size w w' := by
  have hfm := byte_le fm

  go_enter Try.func4, Try.ntmps4
  go_wp2_with (first | (go_at_call 26; (with_reducible refine (awake13' _).mono ?_); rintro e w1 ⟨rfl, hb1⟩; have X := Lib.hid (block_below (at_a0 w _ _) hb1); have K := Lib.hid (below_a1 hb1); clear hb1; have a0 := cell_at (j := 0) X.out; have a1 := cell_at (j := 1) X.out; have a2 := cell_at (j := 2) X.out; simp only [List.getElem?_toArray, List.getElem?_cons_zero, List.getElem?_cons_succ] at a0 a1 a2) | (go_at_call 27; (with_reducible refine (LK.out _).mono ?_); rintro e w2 ⟨rfl, hb2⟩; replace X := Lib.hid (block_below X.out (hb2)); replace K := Lib.hid (nextB K.out (hb2)); clear hb2; have b0 := cell_at (j := 0) X.out; have b1 := cell_at (j := 1) X.out; have b2 := cell_at (j := 2) X.out; simp only [List.getElem?_toArray, List.getElem?_cons_zero, List.getElem?_cons_succ] at b0 b1 b2) | (go_at_call 28; (with_reducible refine (RLK.out _).mono ?_); rintro e wx ⟨rfl, rfl⟩) | (go_at_call 29; (with_reducible refine (GR.out _).mono ?_); rintro e w3 ⟨rfl, hb3⟩; replace X := Lib.hid (block_below X.out (hb3)); replace K := Lib.hid (nextB K.out (hb3)); clear hb3; have c0 := cell_at (j := 0) X.out; have c1 := cell_at (j := 1) X.out; have c2 := cell_at (j := 2) X.out; simp only [List.getElem?_toArray, List.getElem?_cons_zero, List.getElem?_cons_succ] at c0 c1 c2) | (go_at_call 30; (with_reducible refine (RGR.out _).mono ?_); rintro e wx ⟨rfl, rfl⟩) | (go_at_call 31; (with_reducible refine (ME.out _).mono ?_); rintro e w4 ⟨rfl, hb4⟩; replace X := Lib.hid (block_below X.out (hb4)); replace K := Lib.hid (nextB K.out (hb4)); clear hb4; have d0 := cell_at (j := 0) X.out; have d1 := cell_at (j := 1) X.out; have d2 := cell_at (j := 2) X.out; simp only [List.getElem?_toArray, List.getElem?_cons_zero, List.getElem?_cons_succ] at d0 d1 d2) | (go_at_call 32; (with_reducible refine (RME.out _).mono ?_); rintro e wx ⟨rfl, rfl⟩) | (go_at_call 33; (with_reducible refine (SP.out _).mono ?_); rintro e w5 ⟨rfl, hb5⟩; replace X := Lib.hid (block_below X.out (hb5)); replace K := Lib.hid (nextB K.out (hb5)); clear hb5) | (go_at_call 34; (with_reducible refine (RSP.out _).mono ?_); rintro e wx ⟨rfl, rfl⟩) | (go_at_call 35; (with_reducible refine (LT.out _).mono ?_); rintro e wx ⟨rfl, rfl⟩) | (go_at_call 36; (with_reducible refine (RLT.out _).mono ?_); rintro e wx ⟨rfl, rfl⟩) | (go_at_call 37; (with_reducible refine (NM.out _).mono ?_); rintro e wx ⟨rfl, rfl⟩) | (go_at_call 38; (with_reducible refine (RNM.out _).mono ?_); rintro e wx ⟨rfl, rfl⟩))
  go_ret
  exact ⟨rfl, K.out⟩
set_option maxRecDepth 100000 in
theorem walk_FrameFlags (v : Int) (hv : (Lit.int .i64 v).wf = true) (bt : Int) (hbt : (Lit.int .u8 bt).wf = true) (id : List UInt8) (hid : id.length ≤ maxLen) (w : World) :
    Calls Try.prog 4 #[.int .i64 v, .int .u8 bt, .string ⟨id.toArray⟩] w fun e w' => e = .returned (.bool true) ∧ Below w.heap.size w w' := by
  obtain ⟨fm, rfl⟩ := wf_u8 hbt
  by_cases hl : (100 : Int) < id.length
  · go_enter Try.func4, Try.ntmps4
    go_wp2_with (go_at_call 26; (with_reducible refine (awake13' _).mono ?_); rintro e w1 ⟨rfl, hb1⟩)
    go_ret
    exact ⟨rfl, hb1⟩
  · have hl2 : id.length ≤ 1000000000 := by omega
    exact fflags_in v fm id _ _ _ _ _ _ w hl (Lib.hid fun w => locked_any v id 0 fm w) (Lib.hid fun w => grouped_any v id 0 fm w) (Lib.hid fun w => measured_any v id 0 fm w) (Lib.hid fun w => spread_any v id 0 fm w) (Lib.hid fun w => letters_any v w) (Lib.hid fun w => named_any v id w hl2)
      (Lib.hid fun w => rlocked_any v fm w) (Lib.hid fun w => rgrouped_any v fm w) (Lib.hid fun w => rmeasured_any v fm w) (Lib.hid fun w => rspread_any v fm w) (Lib.hid fun w => rletters_any v w) (Lib.hid fun w => rnamed_any v id w hl2)
end Go.Proofs.Ytdoheningeafhaa

namespace Go.Proofs.Ytdoheningeafhaa
open Go.RowKit Go.ChangeShapes Go.WideShapes Go.Deep
set_option linter.unusedVariables false
set_option linter.unusedSimpArgs false

section
variable {H : Type} {enc : TypeId × Value → H} {w : World} {base : Nat} {spare : Nat → Bool} {held : Bool} {fuel : Nat} {cs : List Value} {x : DataW H × List MemPlace}
set_option maxRecDepth 100000 in
theorem fhead_cells {c0 c1 c2 : Value} (h : DataW.trod enc Try.prog w base spare held fuel 44 [c0, c1, c2] = some x) :
    ∃ (id : List UInt8) (st fm : UInt8), c0 = .string ⟨id.toArray⟩ ∧ c1 = .int .u8 st.toNat ∧ c2 = .int .u8 fm.toNat ∧ id.length ≤ maxLen := by
  obtain ⟨xs, n, rfl, hx, hl, hxl, hfs⟩ := DataW.trod_struct Try.underlying44 h
  have hxl3 : xs.length = 3 := hxl
  match xs, hxl3 with
  | [y0, y1, y2], _ =>
    have h0 : DataW.trod enc Try.prog w base spare held n 9 [c0] = some y0 := hfs 0 _ rfl
    have h1 : DataW.trod enc Try.prog w base spare held n 5 [c1] = some y1 := hfs 1 _ rfl
    have h2 : DataW.trod enc Try.prog w base spare held n 5 [c2] = some y2 := hfs 2 _ rfl
    obtain ⟨s0, e0, _, k0⟩ := DataW.trod_string Try.underlying9 h0
    obtain ⟨n1, e1, _, k1⟩ := DataW.trod_int Try.underlying5 h1
    obtain ⟨n2, e2, _, k2⟩ := DataW.trod_int Try.underlying5 h2
    obtain ⟨a1, rfl⟩ := wf_u8 k1
    obtain ⟨a2, rfl⟩ := wf_u8 k2
    obtain ⟨l0, rfl⟩ := bytes_eta s0
    exact ⟨l0, a1, a2, by simpa using e0, by simpa using e1, by simpa using e2, by simpa [ByteArray.size] using k0⟩
set_option maxRecDepth 100000 in
theorem frame_cells (hlen : cs.length = 6) (h : DataW.trod enc Try.prog w base spare held fuel 51 cs = some x) :
    ∃ f : Fr, cs = frR f ∧ f.id.length ≤ maxLen ∧ f.bo.length ≤ maxLen := by
  match cs, hlen with
  | [c0, c1, c2, c3, c4, c5], _ =>
    obtain ⟨xs, n, rfl, hx, hl, hxl, hfs⟩ := DataW.trod_struct Try.underlying51 h
    have hxl4 : xs.length = 4 := hxl
    match xs, hxl4 with
    | [y0, y1, y2, y3], _ =>
      have h0 : DataW.trod enc Try.prog w base spare held n 44 [c0, c1, c2] = some y0 := hfs 0 _ rfl
      have h1 : DataW.trod enc Try.prog w base spare held n 5 [c3] = some y1 := hfs 1 _ rfl
      have h2 : DataW.trod enc Try.prog w base spare held n 9 [c4] = some y2 := hfs 2 _ rfl
      have h3 : DataW.trod enc Try.prog w base spare held n 3 [c5] = some y3 := hfs 3 _ rfl
      obtain ⟨id, st, fm, rfl, rfl, rfl, g1⟩ := fhead_cells h0
      obtain ⟨n3, e3, _, k3⟩ := DataW.trod_int Try.underlying5 h1
      obtain ⟨s4, e4, _, k4⟩ := DataW.trod_string Try.underlying9 h2
      obtain ⟨n5, e5, _, k5⟩ := DataW.trod_int Try.underlying3 h3
      obtain ⟨a3, rfl⟩ := wf_u8 k3
      obtain ⟨l4, rfl⟩ := bytes_eta s4
      obtain rfl : c3 = .int .u8 a3.toNat := by simpa using e3
      obtain rfl : c4 = .string ⟨l4.toArray⟩ := by simpa using e4
      obtain rfl : c5 = .int .i64 n5 := by simpa using e5
      exact ⟨⟨id, st, fm, a3, l4, n5⟩, rfl, g1, by simpa [ByteArray.size] using k4⟩
end
section
variable {H : Type} {enc : TypeId × Value → H} {w : World} {base : Nat} {spare : Nat → Bool} {held : Bool} {v : Value} {d : DataW H} {p : List MemPlace} {r : Reach} {b0 : Nat}
set_option maxRecDepth 100000 in
theorem open_frame (hv : Value.okWide Try.prog w r b0 51 v) (h : DataW.Trod enc Try.prog w base spare held 51 v d p) :
    ∃ f : Fr, v = frV f ∧ f.id.length ≤ maxLen ∧ f.bo.length ≤ maxLen := by
  obtain ⟨cs, rfl, hsz⟩ := okWide_struct Try.underlying51 hv
  have h6 : cs.size = 6 := hsz.trans (by kernel_rfl)
  obtain ⟨fuel, hf⟩ := h
  obtain ⟨q, hq, rest⟩ := frame_cells (cs := cs.toList) (by simpa using h6) (by simpa [Value.cells] using hf)
  exact ⟨q, by unfold frV; rw [← hq], rest⟩
end

set_option maxRecDepth 100000 in
theorem fprints_over (v : Int) (f : Fr) (be : List UInt8) (w : World) (h : (1000 : Int) < f.bo.length ∨ (100 : Int) < f.id.length ∨ (100 : Int) < be.length) :
    Calls Try.prog 5 #[.int .i64 v, frV f, .string ⟨be.toArray⟩] w fun e w' => e = .returned (.bool true) ∧ Below w.heap.size w w' := by
  unfold frV frR
  by_cases h1 : (1000 : Int) < f.bo.length
  · go_enter Try.func5, Try.ntmps5
    go_wp2_with (go_at_call 26; refine (awake13' _).mono ?_; rintro e w1 ⟨rfl, hb1⟩)
    go_ret
    exact ⟨rfl, below_a1 hb1⟩
  · by_cases h2 : (100 : Int) < f.id.length
    · clear h
      go_enter Try.func5, Try.ntmps5
      go_wp2_with (go_at_call 26; refine (awake13' _).mono ?_; rintro e w1 ⟨rfl, hb1⟩)
      go_ret
      exact ⟨rfl, below_a1 hb1⟩
    · have h3 : (100 : Int) < be.length := (h.resolve_left h1).resolve_left h2
      clear h
      go_enter Try.func5, Try.ntmps5
      go_wp2_with (go_at_call 26; refine (awake13' _).mono ?_; rintro e w1 ⟨rfl, hb1⟩)
      go_ret
      exact ⟨rfl, below_a1 hb1⟩

set_option maxHeartbeats 4000000 in
set_option maxRecDepth 100000 in
theorem fprints_in (v : Int) (id : List UInt8) (st fm gr : UInt8) (bo : List UInt8) (pl c : Int) (be s : List UInt8) (w : World) (h1 : ¬ (1000 : Int) < bo.length) (h2 : ¬ (100 : Int) < id.length) (h3 : ¬ (100 : Int) < be.length)
    (PR : Hid (∀ w, Calls Try.prog 39 #[.agg #[.string ⟨id.toArray⟩, .int .u8 st.toNat, .int .u8 fm.toNat, .int .u8 gr.toNat, .string ⟨bo.toArray⟩, .int .i64 pl], .int .i64 v] w fun e w' => e = .returned (.tuple #[.string ⟨s.toArray⟩, .agg #[.int .i64 c, .int .i64 0]]) ∧ Below w.heap.size w w'))
    (CK : Hid (∀ w, Calls Try.prog 42 #[.agg #[.string ⟨id.toArray⟩, .int .u8 st.toNat, .int .u8 fm.toNat, .int .u8 gr.toNat, .string ⟨bo.toArray⟩, .int .i64 pl], .int .i64 v] w fun e w' => e = .returned (.agg #[.int .i64 c, .int .i64 0]) ∧ Below w.heap.size w w'))
    (OF : Hid (∀ w, Calls Try.prog 41 #[.agg #[.string ⟨id.toArray⟩, .int .u8 st.toNat, .int .u8 fm.toNat, .int .u8 gr.toNat, .string ⟨bo.toArray⟩, .int .i64 pl]] w fun e w' => e = .returned (.agg #[.string ⟨id.toArray⟩, .int .i64 st.toNat, .int .i64 fm.toNat, .int .i64 gr.toNat, .string ⟨bo.toArray⟩, .int .i64 pl]) ∧ Below w.heap.size w w'))
    (RC : Hid (∀ w, Calls Try.prog 40 #[.int .i64 v, .agg #[.string ⟨id.toArray⟩, .int .i64 st.toNat, .int .i64 fm.toNat, .int .i64 gr.toNat, .string ⟨bo.toArray⟩, .int .i64 pl]] w fun e w' => e = .returned (.int .i64 c) ∧ Below w.heap.size w w'))
    (OZ : Hid (∀ w, Calls Try.prog 41 #[.agg #[.string ⟨id.toArray⟩, .int .u8 st.toNat, .int .u8 fm.toNat, .int .u8 gr.toNat, .string ⟨bo.toArray⟩, .int .i64 0]] w fun e w' => e = .returned (.agg #[.string ⟨id.toArray⟩, .int .i64 st.toNat, .int .i64 fm.toNat, .int .i64 gr.toNat, .string ⟨bo.toArray⟩, .int .i64 0]) ∧ Below w.heap.size w w'))
    (hs : (¬ c = 0 ∧ s = []) ∨ (c = 0 ∧ s.length ≤ 5000 ∧ Hid (∃ m' : Rd, m'.Ok ∧ m'.rest.2 = be ∧ (∀ b w, RdAt w b (Rd.new (s ++ be) 0) → Calls Try.prog 44 #[.int .i64 v, .pointer (some ⟨b, 0, none⟩), .bool false] w fun e w' => e = .returned (.tuple #[.agg #[.string ⟨id.toArray⟩, .int .u8 st.toNat, .int .u8 fm.toNat, .int .u8 gr.toNat, .string ⟨bo.toArray⟩, .int .i64 0], .bool true]) ∧ RdAt w' b m' ∧ Only b w w')) ∧
      Hid (∀ w, Calls Try.prog 45 #[.int .i64 v, .agg #[.string ⟨id.toArray⟩, .int .i64 st.toNat, .int .i64 fm.toNat, .int .i64 gr.toNat, .string ⟨bo.toArray⟩, .int .i64 0]] w fun e w' => e = .returned (.string ⟨s.toArray⟩) ∧ Below w.heap.size w w'))) :
    Calls Try.prog 5 #[.int .i64 v, .agg #[.string ⟨id.toArray⟩, .int .u8 st.toNat, .int .u8 fm.toNat, .int .u8 gr.toNat, .string ⟨bo.toArray⟩, .int .i64 pl], .string ⟨be.toArray⟩] w fun e w' => e = .returned (.bool true) ∧ Below w.heap.size w w' := by
  have HS := Lib.hid hs
  clear hs
  go_enter Try.func5, Try.ntmps5
  go_upto_region 5 with (first | (go_at_call 39; (with_reducible refine (PR.out _).mono ?_); rintro e w1 ⟨rfl, hb1⟩; have X := Lib.hid (block_below (at_a0 w _ _) hb1); have K := Lib.hid (below_a1 hb1); clear hb1; have hz1 := (Array.getElem?_eq_some_iff.1 X.out).1; have a0 := cell_at (j := 0) X.out; have a1 := cell_at (j := 1) X.out; have a2 := cell_at (j := 2) X.out; have a3 := cell_at (j := 3) X.out; have a4 := cell_at (j := 4) X.out; have a5 := cell_at (j := 5) X.out; simp only [List.getElem?_toArray, List.getElem?_cons_zero, List.getElem?_cons_succ] at a0 a1 a2 a3 a4 a5) | (go_at_call 41; (with_reducible refine (OF.out _).mono ?_); rintro e w2 ⟨rfl, hb2⟩; have G := Lib.hid (block_below (at_a0 w1 _ _) hb2); replace X := Lib.hid (block_below X.out (below_a1 hb2)); replace K := Lib.hid (nextB K.out (below_a1 hb2)); clear hb2) | (go_at_call 40; (with_reducible refine (RC.out _).mono ?_); rintro e w3 ⟨rfl, hb3⟩; replace X := Lib.hid (block_below X.out (hb3)); replace G := Lib.hid (block_below G.out (hb3)); replace K := Lib.hid (nextB K.out (hb3)); clear hb3))
  have hxb := (Array.getElem?_eq_some_iff.1 X.out).1
  have hfb := (Array.getElem?_eq_some_iff.1 G.out).1
  clear a0 a1 a2 a3 a4 a5 hz1
  generalize hxe : w.heap.size = xb at *
  generalize w1.heap.size = fb at *
  have HX := Lib.hid hxe
  clear hxe RC
  have cc : w3.cell? ⟨xb, 0, none⟩ = some (.string ⟨id.toArray⟩) ∧ w3.cell? ⟨xb, 1, none⟩ = some (.int .u8 st.toNat) ∧ w3.cell? ⟨xb, 2, none⟩ = some (.int .u8 fm.toNat) ∧ w3.cell? ⟨xb, 3, none⟩ = some (.int .u8 gr.toNat) ∧ w3.cell? ⟨xb, 4, none⟩ = some (.string ⟨bo.toArray⟩) ∧ w3.cell? ⟨xb, 5, none⟩ = some (.int .i64 pl) ∧ w3.cell? ⟨fb, 0, none⟩ = some (.int .i64 c) ∧ w3.cell? ⟨fb, 1, none⟩ = some (.int .i64 0) := ⟨cell_at (j := 0) (X.out), cell_at (j := 1) (X.out), cell_at (j := 2) (X.out), cell_at (j := 3) (X.out), cell_at (j := 4) (X.out), cell_at (j := 5) (X.out), cell_at (j := 0) (G.out), cell_at (j := 1) (G.out)⟩
  go_region_held3 (fun w' => w'.cell? ⟨xb, 0, none⟩ = some (.string ⟨id.toArray⟩) ∧ w'.cell? ⟨xb, 1, none⟩ = some (.int .u8 st.toNat) ∧ w'.cell? ⟨xb, 2, none⟩ = some (.int .u8 fm.toNat) ∧ w'.cell? ⟨xb, 3, none⟩ = some (.int .u8 gr.toNat) ∧ w'.cell? ⟨xb, 4, none⟩ = some (.string ⟨bo.toArray⟩) ∧ w'.cell? ⟨xb, 5, none⟩ = some (.int .i64 pl) ∧ w'.cell? ⟨fb, 0, none⟩ = some (.int .i64 c) ∧ w'.cell? ⟨fb, 1, none⟩ = some (.int .i64 0)) (first | exact cc | exact x5 | exact x4 | fail)
    (first | (go_at_call 42; have _chk := k4; (with_reducible refine (CK.out _).mono ?_); rintro e w5 ⟨rfl, hb5⟩; have k5 := Lib.hid (nextB k4.out hb5); have x5 : w5.cell? ⟨xb, 0, none⟩ = some (.string ⟨id.toArray⟩) ∧ w5.cell? ⟨xb, 1, none⟩ = some (.int .u8 st.toNat) ∧ w5.cell? ⟨xb, 2, none⟩ = some (.int .u8 fm.toNat) ∧ w5.cell? ⟨xb, 3, none⟩ = some (.int .u8 gr.toNat) ∧ w5.cell? ⟨xb, 4, none⟩ = some (.string ⟨bo.toArray⟩) ∧ w5.cell? ⟨xb, 5, none⟩ = some (.int .i64 pl) ∧ w5.cell? ⟨fb, 0, none⟩ = some (.int .i64 c) ∧ w5.cell? ⟨fb, 1, none⟩ = some (.int .i64 0) := ⟨cell_at (j := 0) (block_below X.out k5.out), cell_at (j := 1) (block_below X.out k5.out), cell_at (j := 2) (block_below X.out k5.out), cell_at (j := 3) (block_below X.out k5.out), cell_at (j := 4) (block_below X.out k5.out), cell_at (j := 5) (block_below X.out k5.out), cell_at (j := 0) (block_below G.out k5.out), cell_at (j := 1) (block_below G.out k5.out)⟩; clear hb5 x4) | (go_at_call 42; (with_reducible refine (CK.out _).mono ?_); rintro e w4 ⟨rfl, hb4⟩; have k4 := Lib.hid (fr_drewB hb4); have x4 : w4.cell? ⟨xb, 0, none⟩ = some (.string ⟨id.toArray⟩) ∧ w4.cell? ⟨xb, 1, none⟩ = some (.int .u8 st.toNat) ∧ w4.cell? ⟨xb, 2, none⟩ = some (.int .u8 fm.toNat) ∧ w4.cell? ⟨xb, 3, none⟩ = some (.int .u8 gr.toNat) ∧ w4.cell? ⟨xb, 4, none⟩ = some (.string ⟨bo.toArray⟩) ∧ w4.cell? ⟨xb, 5, none⟩ = some (.int .i64 pl) ∧ w4.cell? ⟨fb, 0, none⟩ = some (.int .i64 c) ∧ w4.cell? ⟨fb, 1, none⟩ = some (.int .i64 0) := ⟨cell_at (j := 0) (block_below X.out k4.out), cell_at (j := 1) (block_below X.out k4.out), cell_at (j := 2) (block_below X.out k4.out), cell_at (j := 3) (block_below X.out k4.out), cell_at (j := 4) (block_below X.out k4.out), cell_at (j := 5) (block_below X.out k4.out), cell_at (j := 0) (block_below G.out k4.out), cell_at (j := 1) (block_below G.out k4.out)⟩; clear hb4))
  have hz3 := HX.out
  replace K : Hid (Below w.heap.size w w3) := Lib.hid (by rw [hz3]; exact K.out)
  replace X := Lib.hid (block_below X.out (k5.out)); replace K := Lib.hid (nextB K.out (k5.out))
  clear k5 k4 x5 cc G CK hz3
  have hxb5 := (Array.getElem?_eq_some_iff.1 X.out).1
  have hxw : w.heap.size ≤ xb := by have := HX.out; omega
  rcases HS.out with ⟨hc, rfl⟩ | ⟨rfl, hsl, PP, RP⟩
  · have t1 : (c != 0) = true := by simpa using hc
    clear HS hc
    go_wp2_with (go_at_call 26; (with_reducible refine (awake13' _).mono ?_); rintro e w8 ⟨rfl, hb8⟩; replace X := Lib.hid (block_below X.out (hb8)); replace K := Lib.hid (nextB K.out (hb8)); clear hb8)
    go_ret
    exact ⟨rfl, K.out⟩
  · have RD := Lib.hid (fun w => read_any (s ++ be) w)
    obtain ⟨m', hok, hre, PP2⟩ := PP.out
    have PP := Lib.hid PP2
    have RS := Lib.hid (fun b w h => rest_any b m' w h hok)
    rw [hre] at RS
    clear HS hok hre PP2
    go_upto_region 11 with (first | (go_at_call 43; (with_reducible refine (RD.out _).mono ?_); rintro e w6 ⟨rfl, hr6, hb6⟩; have R := Lib.hid hr6; have hk := K.out.size; replace X := Lib.hid (block_below X.out (hb6)); replace K := Lib.hid (nextB K.out (hb6)); clear hb6; clear hr6) | (go_at_call 44; (with_reducible refine (PP.out _ _ R.out).mono ?_); rintro e w7 ⟨rfl, hr7, ho7⟩; replace X := Lib.hid (block_only X.out ho7 (by omega)); replace K := Lib.hid (onlyB K.out ho7 (by omega)); clear ho7; replace R := Lib.hid hr7; clear hr7))
    have Y := Lib.hid (at_a0 w7 #[.string ⟨id.toArray⟩, .int .u8 st.toNat, .int .u8 fm.toNat, .int .u8 gr.toNat, .string ⟨bo.toArray⟩, .int .i64 0] 51)
    have hlt7 := R.out.lt
    replace X := Lib.hid (block_below X.out ((Below.refl w7.heap.size w7).alloc (Nat.le_refl _) (.cells #[.string ⟨id.toArray⟩, .int .u8 st.toNat, .int .u8 fm.toNat, .int .u8 gr.toNat, .string ⟨bo.toArray⟩, .int .i64 0] 51))); replace R := Lib.hid (R.out.below ((Below.refl w7.heap.size w7).alloc (Nat.le_refl _) (.cells #[.string ⟨id.toArray⟩, .int .u8 st.toNat, .int .u8 fm.toNat, .int .u8 gr.toNat, .string ⟨bo.toArray⟩, .int .i64 0] 51))); replace K := Lib.hid (nextB K.out ((Below.refl w7.heap.size w7).alloc (Nat.le_refl _) (.cells #[.string ⟨id.toArray⟩, .int .u8 st.toNat, .int .u8 fm.toNat, .int .u8 gr.toNat, .string ⟨bo.toArray⟩, .int .i64 0] 51)))
    have hlt8 := R.out.lt
    have hyx : xb ≠ w7.heap.size := by omega
    have hyr : w5.heap.size ≠ w7.heap.size := by omega
    generalize w7.alloc (.cells #[.string ⟨id.toArray⟩, .int .u8 st.toNat, .int .u8 fm.toNat, .int .u8 gr.toNat, .string ⟨bo.toArray⟩, .int .i64 0] 51) = v8 at *
    generalize w7.heap.size = yb at *
    generalize w5.heap.size = rb at *
    have p0 := cell_at (j := 0) X.out; have p1 := cell_at (j := 1) X.out; have p2 := cell_at (j := 2) X.out; have p3 := cell_at (j := 3) X.out; have p4 := cell_at (j := 4) X.out; have p5 := cell_at (j := 5) X.out; have pf0 := free_at (j := 0) X.out; have pf1 := free_at (j := 1) X.out; have pf2 := free_at (j := 2) X.out; have pf3 := free_at (j := 3) X.out; have pf4 := free_at (j := 4) X.out; have pf5 := free_at (j := 5) X.out; simp only [List.getElem?_toArray, List.getElem?_cons_zero, List.getElem?_cons_succ] at p0 p1 p2 p3 p4 p5
    go_upto_region 12 with fail
    replace X : Hid ((v8.setCell ⟨xb, 5, none⟩ (.int .i64 0)).heap[xb]? = some (.cells #[.string ⟨id.toArray⟩, .int .u8 st.toNat, .int .u8 fm.toNat, .int .u8 gr.toNat, .string ⟨bo.toArray⟩, .int .i64 0] 51 (0, 0))) := Lib.hid (setCell_at X.out)
    replace Y := Lib.hid ((heap_set_other (b := yb) (c := xb) (j := 5) (.int .i64 0) (by omega)).trans Y.out)
    replace R := Lib.hid (R.out.only (Only.set (b := xb) (j := 5) (.int .i64 0)) (by omega))
    replace K := Lib.hid (Below.setCell (p := ⟨xb, 5, none⟩) K.out hxw (.int .i64 0))
    generalize v8.setCell ⟨xb, 5, none⟩ (.int .i64 0) = v9 at *
    clear p0 p1 p2 p3 p4 p5 pf0 pf1 pf2 pf3 pf4 pf5
    go_wp2_with (first | (go_at_call 26; (with_reducible refine (awake13' _).mono ?_); rintro e w8 ⟨rfl, hb8⟩; replace X := Lib.hid (block_below X.out (hb8)); replace Y := Lib.hid (block_below Y.out (hb8)); replace R := Lib.hid (R.out.below (hb8)); replace K := Lib.hid (nextB K.out (hb8)); clear hb8; have q0 := cell_at (j := 0) X.out; have q1 := cell_at (j := 1) X.out; have q2 := cell_at (j := 2) X.out; have q3 := cell_at (j := 3) X.out; have q4 := cell_at (j := 4) X.out; have q5 := cell_at (j := 5) X.out; simp only [List.getElem?_toArray, List.getElem?_cons_zero, List.getElem?_cons_succ] at q0 q1 q2 q3 q4 q5) | (go_at_call 41; (with_reducible refine (OZ.out _).mono ?_); rintro e w9 ⟨rfl, hb9⟩; replace X := Lib.hid (block_below X.out (hb9)); replace Y := Lib.hid (block_below Y.out (hb9)); replace R := Lib.hid (R.out.below (hb9)); replace K := Lib.hid (nextB K.out (hb9)); clear hb9) | (go_at_call 45; (with_reducible refine (RP.out _).mono ?_); rintro e w10 ⟨rfl, hb10⟩; replace X := Lib.hid (block_below X.out (hb10)); replace Y := Lib.hid (block_below Y.out (hb10)); replace R := Lib.hid (R.out.below (hb10)); replace K := Lib.hid (nextB K.out (hb10)); clear hb10; have g0 := cell_at (j := 0) X.out; have g1 := cell_at (j := 1) X.out; have g2 := cell_at (j := 2) X.out; have g3 := cell_at (j := 3) X.out; have g4 := cell_at (j := 4) X.out; have g5 := cell_at (j := 5) X.out; simp only [List.getElem?_toArray, List.getElem?_cons_zero, List.getElem?_cons_succ] at g0 g1 g2 g3 g4 g5; have d0 := cell_at (j := 0) Y.out; have d1 := cell_at (j := 1) Y.out; have d2 := cell_at (j := 2) Y.out; have d3 := cell_at (j := 3) Y.out; have d4 := cell_at (j := 4) Y.out; have d5 := cell_at (j := 5) Y.out; simp only [List.getElem?_toArray, List.getElem?_cons_zero, List.getElem?_cons_succ] at d0 d1 d2 d3 d4 d5) | (go_at_call 46; (with_reducible refine (RS.out _ _ R.out).mono ?_); rintro e w11 ⟨rfl, hr11, ho11⟩; replace K := Lib.hid (onlyB K.out ho11 (by omega))))
    go_ret
    exact ⟨rfl, K.out⟩

theorem print_len_le (v : Int) (f : Fr) (h4 : f.id.length ≤ 4) : (printF v f).length ≤ 2 * f.bo.length + 15 := by
  have h1 := lengthF_le v f
  have h2 := data_len v f
  have h3 := sizeL_len v (lengthF v f)
  rw [printF_eq]
  simp only [List.length_append]
  have h5 : (flagL v f.st f.fm).length ≤ 2 := by unfold flagL; split <;> simp [bigL_len]
  split at h3 <;> omega
theorem walk_FramePrints (w : World) (v : Int) (hv : (Lit.int .i64 v).wf = true) (fv : Value) (hf : ∃ f : Fr, fv = frV f ∧ f.id.length ≤ maxLen ∧ f.bo.length ≤ maxLen) (be : List UInt8) (hbe : be.length ≤ maxLen) :
    Calls Try.prog 5 #[.int .i64 v, fv, .string ⟨be.toArray⟩] w fun e w' => e = .returned (.bool true) ∧ Below w.heap.size w w' := by
  obtain ⟨f, rfl, _, _⟩ := hf
  by_cases h1 : (1000 : Int) < f.bo.length
  · exact fprints_over v f be w (.inl h1)
  by_cases h2 : (100 : Int) < f.id.length
  · exact fprints_over v f be w (.inr (.inl h2))
  by_cases h3 : (100 : Int) < be.length
  · exact fprints_over v f be w (.inr (.inr h3))
  refine fprints_in v f.id f.st f.fm f.gr f.bo f.pl (checkF v f) be (if checkF v f = 0 then printF v f else []) w h1 h2 h3 (Lib.hid fun w => fprint_any v f w (by omega) (by omega)) (Lib.hid fun w => fcheck_any v f w (by omega)) (Lib.hid fun w => fof_any f w) (Lib.hid fun w => rcheck_any v f w (by omega)) (Lib.hid fun w => fof_any { f with pl := 0 } w) ?_
  by_cases hc : checkF v f = 0
  · right
    rw [if_pos hc]
    have h4 := (named_pos (checkF_ok hc).1).2.1
    have hle := print_len_le v f h4
    refine ⟨hc, by omega, Lib.hid ?_, Lib.hid fun w => rfprint_any v { f with pl := 0 } w (by show f.bo.length ≤ _; omega) hc⟩
    have R0 : Run (Rd.new (printF v f ++ be) 0) (printF v f ++ be) := Run.new _ _
    have hok : (Rd.new (printF v f ++ be) 0).Ok := new_ok _ 0 (by rw [List.length_append]; omega) (by decide)
    refine ⟨adv (Rd.new (printF v f ++ be) 0) (printF v f).length, ?_, ?_, ?_⟩
    · refine ⟨?_, hok.2.1, hok.2.2.1, hok.2.2.2⟩
      exact R0.adv.2.1
    · rw [R0.adv.rest]
    · intro b w h
      have h5 := fparse_any v false b _ w h hok (show max (0 : Int) 0 ≤ _ by decide)
      rw [frParse_run v false f _ be hc (by omega) (fun _ h => by cases h) R0] at h5
      exact h5
  · left
    rw [if_neg hc]
    exact ⟨hc, rfl⟩
end Go.Proofs.Ytdoheningeafhaa
