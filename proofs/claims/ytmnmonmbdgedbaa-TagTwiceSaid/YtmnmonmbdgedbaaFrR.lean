/- Layer 13 (frame): a frame that is read may be printed, and is as long as it was, if it isn't spread (plain). -/
import Derived.Test.YtmnmonmbdgedbaaFrQ
namespace Go.Proofs.Ytmnmonmbdgedbaa
open Go.RowKit
set_option linter.unusedVariables false
set_option linter.unusedSimpArgs false

theorem fail_cd_pos (m : Rd) (p : Int) : (m.fail 1 p).cd ≠ 0 := by
  by_cases h : m.cd = 0
  · rw [Rd.fail_yes m 1 p h (by decide)]; show (1 : Int) ≠ 0; decide
  · rw [Rd.fail_no m 1 p (by simp [h])]; exact h
theorem safe_ok_of {m : Rd} (hm : m.nx ≤ m.t.length) (h : m.safe.1.cd = 0) : m.cd = 0 ∧ m.nx + 4 ≤ m.t.length ∧ m.safe.1 = adv m 4 := by
  unfold Rd.safe at h ⊢
  rcases hf : (m.take 4).2.findIdx? hi with _ | i
  · rw [hf] at h
    simp only at h ⊢
    obtain ⟨h1, h2, h3⟩ := take_ok_of (k := 4) hm h
    exact ⟨h1, h2, by rw [show ((4 : Nat) : Int) = 4 from rfl] at h3; rw [h3]⟩
  · rw [hf] at h
    exact absurd h (fail_cd_pos _ _)
theorem sizeM_ok_of {v : Int} {m : Rd} (hm : m.nx ≤ m.t.length) (h : (sizeM v m).1.cd = 0) : m.cd = 0 ∧ m.nx + (if v = 2 then 3 else 4) ≤ m.t.length ∧ (sizeM v m).1 = adv m (if v = 2 then 3 else 4) := by
  unfold sizeM at h ⊢
  by_cases h2 : v = 2
  · rw [if_pos h2] at h
    rw [if_pos h2, if_pos h2]
    obtain ⟨a, b, c⟩ := take_ok_of (k := 3) hm h
    exact ⟨a, b, by rw [c]⟩
  · rw [if_neg h2] at h
    rw [if_neg h2, if_neg h2]
    by_cases h3 : v = 3
    · rw [if_pos h3] at h
      rw [if_pos h3]
      obtain ⟨a, b, c⟩ := take_ok_of (k := 4) hm h
      exact ⟨a, b, by rw [c]⟩
    · rw [if_neg h3] at h
      rw [if_neg h3]
      exact safe_ok_of hm h
theorem rest_of {m : Rd} (hm : m.nx ≤ m.t.length) (h : m.cd = 0) : m.rest = (adv m (m.t.length - m.nx), m.t.drop m.nx) := by
  have hr : Run m (m.t.drop m.nx) := ⟨h, hm, rfl⟩
  have e := hr.rest
  rwa [List.length_drop] at e
/-- data that is read without a fault -/
theorem fill_sound (v : Int) (fm : UInt8) (data : List UInt8) (at0 : Int) (h : (fillC v fm data at0).1 = 0) :
    (grouped v fm = false → (fillB v fm data at0).1 = 0) ∧ (fillB v fm data at0).2.length ≤ data.length ∧
    (spreadB v fm = false → (if grouped v fm = true then 1 else 0) + (if measured v fm = true then 4 else 0) + (fillB v fm data at0).2.length = data.length) := by
  unfold fillC at h
  unfold fillB
  by_cases hk : locked v fm = true
  · rw [if_pos hk]
    have hg : grouped v fm = false := by unfold grouped; rw [if_pos hk]
    have hm : measured v fm = false := by unfold measured; rw [if_pos hk]; simp
    rw [hg, hm]
    exact ⟨fun _ => rfl, Nat.le_refl _, fun _ => by simp⟩
  rw [if_neg hk] at h
  rw [if_neg hk]
  simp only at h ⊢
  have hcd : (fillM (grouped v fm) (measured v fm) (spreadB v fm) (Rd.new data at0)).m.cd = 0 := by
    by_cases hc : (fillM (grouped v fm) (measured v fm) (spreadB v fm) (Rd.new data at0)).m.cd = 0
    · exact hc
    · rw [if_pos hc] at h; exact absurd h hc
  clear h
  have h0 : (Rd.new data at0).nx ≤ (Rd.new data at0).t.length := Nat.zero_le _
  unfold fillM at hcd ⊢
  simp only at hcd ⊢
  have e1 : ∃ j, ((if grouped v fm = true then (Rd.new data at0).take ((1 : Nat) : Int) else (Rd.new data at0, [])).1.cd = 0 →
      (if grouped v fm = true then (Rd.new data at0).take ((1 : Nat) : Int) else (Rd.new data at0, [])).1 = adv (Rd.new data at0) j ∧ j ≤ data.length) ∧ j = (if grouped v fm = true then 1 else 0) := by
    refine ⟨_, ?_, rfl⟩
    split
    · intro hc
      obtain ⟨a, b, c⟩ := take_ok_of (k := 1) h0 hc
      exact ⟨by rw [c], by have : 0 + 1 ≤ data.length := b; omega⟩
    · intro _; exact ⟨rfl, Nat.zero_le _⟩
  obtain ⟨j, e1, hj⟩ := e1
  rw [← hj]
  generalize (if grouped v fm = true then (Rd.new data at0).take ((1 : Nat) : Int) else (Rd.new data at0, [])) = a1 at *
  have e2 : (if measured v fm = true then a1.1.safe else (a1.1, 0)).1 = adv (Rd.new data at0) (j + (if measured v fm = true then 4 else 0)) ∧ j + (if measured v fm = true then 4 else 0) ≤ data.length := by
    rcases hmm : measured v fm with _ | _
    · rw [hmm] at hcd
      simp only [Bool.false_eq_true, if_false] at hcd ⊢
      exact e1 hcd
    · rw [hmm] at hcd
      simp only [if_true] at hcd ⊢
      by_cases hc1 : a1.1.cd = 0
      · obtain ⟨f1, f2⟩ := e1 hc1
        rw [f1] at hcd ⊢
        obtain ⟨a, b, c⟩ := safe_ok_of (m := adv (Rd.new data at0) j) (by show 0 + j ≤ data.length; omega) hcd
        have b' : 0 + j + 4 ≤ data.length := b
        rw [c, adv_adv]
        exact ⟨rfl, by omega⟩
      · rw [safe_dead hc1] at hcd
        exact absurd hcd hc1
  obtain ⟨e2, hle⟩ := e2
  rw [e2]
  generalize hq : j + (if measured v fm = true then 4 else 0) = q at *
  have er := rest_of (m := adv (Rd.new data at0) q) (by show 0 + q ≤ data.length; omega) rfl
  rw [er]
  simp only
  have hdl : ((adv (Rd.new data at0) q).t.drop (adv (Rd.new data at0) q).nx).length = data.length - q := by
    show (data.drop (0 + q)).length = _
    rw [List.length_drop]; omega
  refine ⟨fun hg => by rw [hg]; rfl, ?_, fun hs => ?_⟩
  · have := sndDrop_len ((adv (Rd.new data at0) q).t.drop (adv (Rd.new data at0) q).nx) false
    split <;> omega
  · rw [hs]
    simp only [Bool.false_eq_true, if_false]
    rw [hdl]
    omega
set_option maxRecDepth 100000 in
theorem tb_or (c : UInt8) : tb (c ||| 2) 2 = true := by
  unfold tb
  have h : ∀ n : Nat, n < 256 → ((UInt8.ofNat n ||| 2).toNat &&& 2) ≠ 0 := by decide
  have e : UInt8.ofNat c.toNat = c := by simp
  have h2 := h c.toNat (UInt8.toNat_lt c)
  rw [e] at h2
  simpa using h2
set_option maxRecDepth 100000 in
theorem or_tb (c : UInt8) (h : tb c 2 = true) : c ||| 2 = c := by
  have h0 : ∀ n : Nat, n < 256 → tb (UInt8.ofNat n) 2 = true → UInt8.ofNat n ||| 2 = UInt8.ofNat n := by decide
  have e : UInt8.ofNat c.toNat = c := by simp
  have h2 := h0 c.toNat (UInt8.toNat_lt c)
  rw [e] at h2
  exact h2 h
theorem frParse_sound (v : Int) (sp : Bool) (m m' : Rd) (f : Fr) (hm : m.nx ≤ m.t.length) (h : frParse v sp m = (m', f, true)) :
    ∃ k, m' = adv m k ∧ 6 ≤ k ∧ m.nx + k ≤ m.t.length ∧ m.cd = 0 ∧ checkF v f = 0 ∧ f.pl = m.bs + m.nx ∧ f.bo.length ≤ k ∧ (v = 4 → sp = true → tb f.fm 2 = true) ∧ (spreadB v f.fm = false → (printF v f).length = k) := by
  unfold frParse at h
  split at h
  · simp at h
  rename_i hg
  simp only [not_or] at hg
  obtain ⟨g0, g1, g2, g3⟩ := hg
  have g1 : m.cd = 0 := by simpa using g1
  have hv := letters_of g0
  unfold frEnd at h
  split at h
  · simp at h
  rename_i h5
  have h5 : (frMain v sp m).m5.cd = 0 := by simpa using h5
  split at h
  · simp at h
  rename_i hf
  have hf : (fillC v (frMain v sp m).fm (frMain v sp m).data (frMain v sp m).at2).1 = 0 := by simpa using hf
  simp only [Prod.mk.injEq, and_true] at h
  obtain ⟨hm', hfe⟩ := h
  obtain ⟨s1, s2, s3⟩ := fill_sound _ _ _ _ hf
  have hfm : f.fm = (frMain v sp m).fm := by rw [← hfe]
  have hbo : f.bo = (fillB v (frMain v sp m).fm (frMain v sp m).data (frMain v sp m).at2).2 := by rw [← hfe]
  have hgr : f.gr = (fillB v (frMain v sp m).fm (frMain v sp m).data (frMain v sp m).at2).1 := by rw [← hfe]
  have hid : f.id = (frMain v sp m).id := by rw [← hfe]
  have hst : f.st = (frMain v sp m).st := by rw [← hfe]
  rw [← hgr, ← hfm] at s1
  rw [← hbo] at s2
  rw [← hbo, ← hfm] at s3
  have hpl : f.pl = m.bs + m.nx := by rw [← hfe]
  clear hfe hf
  -- the steps
  have key : ∃ dl, (frMain v sp m).data.length = dl ∧ (frMain v sp m).m5 = adv m (letters v + ((if v = 2 then 3 else 4) + ((if v = 2 then 0 else 2) + dl))) ∧ m.nx + (letters v + ((if v = 2 then 3 else 4) + ((if v = 2 then 0 else 2) + dl))) ≤ m.t.length ∧
      (frMain v sp m).id.length = letters v ∧ wrongN (frMain v sp m).id = letters v ∧ (v = 2 → (frMain v sp m).st = 0 ∧ (frMain v sp m).fm = 0) ∧ (v = 4 → sp = true → tb (frMain v sp m).fm 2 = true) := by
    unfold frMain at h5 ⊢
    simp only at h5 ⊢
    have hl0 : (m.take ((letters v : Nat) : Int)).1.cd = 0 ∨ (m.take ((letters v : Nat) : Int)).1.cd ≠ 0 := by omega
    have D1 : ∀ r : Rd, r.cd ≠ 0 → ∀ k : Int, (r.take k).1.cd ≠ 0 := fun r hr k => by rw [take_dead hr]; exact hr
    have D2 : ∀ r : Rd, r.cd ≠ 0 → (sizeM v r).1.cd ≠ 0 := fun r hr => by rw [sizeM_dead v hr]; exact hr
    have D3 : ∀ r : Rd, r.cd ≠ 0 → (if v = 2 then (r, ([] : List UInt8)) else r.take ((2 : Nat) : Int)).1.cd ≠ 0 := fun r hr => by split; exact hr; exact D1 r hr _
    by_cases hw : wrongN (m.take ((letters v : Nat) : Int)).2 < (m.take ((letters v : Nat) : Int)).2.length
    · exfalso
      rw [if_pos hw] at h5
      exact D1 _ (D3 _ (D2 _ (fail_cd_pos _ _))) _ h5
    rw [if_neg hw] at h5 ⊢
    rcases hl0 with hl0 | hl0
    rotate_left
    · exfalso
      exact D1 _ (D3 _ (D2 _ hl0)) _ h5
    obtain ⟨_, b1, c1⟩ := take_ok_of hm hl0
    rw [c1] at h5 hw ⊢
    simp only at h5 hw ⊢
    have hlen : ((m.t.drop m.nx).take (letters v)).length = letters v := by rw [List.length_take, List.length_drop]; omega
    have hm1 : (adv m (letters v)).nx ≤ (adv m (letters v)).t.length := b1
    by_cases hs : (sizeM v (adv m (letters v))).1.cd = 0
    rotate_left
    · exfalso
      exact D1 _ (D3 _ hs) _ h5
    obtain ⟨_, b2, c2⟩ := sizeM_ok_of hm1 hs
    generalize hn : (sizeM v (adv m (letters v))).2 = n at *
    rw [c2] at h5 ⊢
    have b2' : m.nx + letters v + (if v = 2 then 3 else 4) ≤ m.t.length := b2
    by_cases h2 : v = 2
    · simp only [if_pos h2] at h5 b2' ⊢
      obtain ⟨_, b3, c3⟩ := take_ok_of (m := adv (adv m (letters v)) 3) (k := n) b2' h5
      have b3' : m.nx + letters v + 3 + n ≤ m.t.length := b3
      rw [c3]
      simp only
      have hdl : (List.take n (List.drop (adv (adv m (letters v)) 3).nx (adv (adv m (letters v)) 3).t)).length = n := by
        rw [List.length_take, List.length_drop]
        show min n (m.t.length - (m.nx + letters v + 3)) = n
        omega
      refine ⟨n, hdl, ?_, by omega, hlen, ?_, ?_, fun h4 => by omega⟩
      · rw [adv_adv, adv_adv]; congr 1; omega
      · have := wrong_le ((m.t.drop m.nx).take (letters v)); omega
      · intro _
        rw [if_neg (by omega)]
        exact ⟨rfl, rfl⟩
    · simp only [if_neg h2] at h5 b2' ⊢
      by_cases hfl : ((adv (adv m (letters v)) 4).take ((2 : Nat) : Int)).1.cd = 0
      rotate_left
      · exfalso
        exact D1 _ hfl _ h5
      obtain ⟨_, b4, c4⟩ := take_ok_of (m := adv (adv m (letters v)) 4) (k := 2) b2' hfl
      rw [c4] at h5 ⊢
      simp only at h5 ⊢
      have b4' : m.nx + letters v + 4 + 2 ≤ m.t.length := b4
      obtain ⟨_, b3, c3⟩ := take_ok_of (m := adv (adv (adv m (letters v)) 4) 2) (k := n) b4' h5
      have b3' : m.nx + letters v + 4 + 2 + n ≤ m.t.length := b3
      rw [c3]
      simp only
      have hdl : (List.take n (List.drop (adv (adv (adv m (letters v)) 4) 2).nx (adv (adv (adv m (letters v)) 4) 2).t)).length = n := by
        rw [List.length_take, List.length_drop]
        show min n (m.t.length - (m.nx + letters v + 4 + 2)) = n
        omega
      refine ⟨n, hdl, ?_, by omega, hlen, ?_, fun h => absurd h h2, ?_⟩
      · rw [adv_adv, adv_adv, adv_adv]
      · have := wrong_le ((m.t.drop m.nx).take (letters v)); omega
      · intro h4 hsp
        rw [if_pos ⟨h4, hsp⟩]
        exact tb_or _
  obtain ⟨dl, k1, k2, k3, k4, k5, k6, k7⟩ := key
  have hl3 : 3 ≤ letters v := by rcases hv with rfl | rfl | rfl <;> decide
  refine ⟨_, by rw [← hm', k2], ?_, k3, g1, ?_, hpl, ?_, by rw [hfm]; exact k7, fun hsp => ?_⟩
  · split <;> omega
  · unfold checkF
    rw [if_pos]
    unfold okF named wfB wgB nz
    have e1 : decide (0 < letters v) = true := by simpa using (by omega : 0 < letters v)
    have e2 : decide (f.id.length = letters v) = true := by rw [hid]; simpa using k4
    have e3 : decide (wrongN f.id = letters v) = true := by rw [hid]; simpa using k5
    rw [e1, e2, e3]
    have e4 : ((v == 2) && (((f.st.toNat : Int) != 0) || ((f.fm.toNat : Int) != 0))) = false := by
      by_cases h2 : v = 2
      · obtain ⟨x1, x2⟩ := k6 h2
        rw [hst, hfm, x1, x2]
        simp
      · simp [h2]
    have e5 : (((f.gr.toNat : Int) != 0) && !grouped v f.fm) = false := by
      rcases hg : grouped v f.fm with _ | _
      · rw [s1 hg]; rfl
      · simp
    rw [e4, e5]
    rfl
  · omega
  · have hlf := s3 hsp
    rw [printF_eq]
    simp only [List.length_append]
    rw [data_len, sizeL_len]
    have hfl : (flagL v f.st f.fm).length = if v = 2 then 0 else 2 := by unfold flagL; split <;> simp [bigL_len]
    rw [hfl, hid, k4]
    unfold lengthF
    rw [hsp]
    simp only [Bool.false_eq_true, if_false]
    rw [k1] at hlf
    split <;> split <;> split <;> simp_all <;> omega
end Go.Proofs.Ytmnmonmbdgedbaa
