/- Layer 15 (tag), plain: a tag that is read may be printed, and isn't longer than it was, if nothing of it is spread. -/
import Derived.Test.YtmnmonmbdgedbaaTg11
namespace Go.Proofs.Ytmnmonmbdgedbaa
open Go.RowKit
set_option linter.unusedVariables false
set_option linter.unusedSimpArgs false

theorem take_ok_int {m : Rd} {n : Int} (hn : 0 ≤ n) (hm : m.nx ≤ m.t.length) (h : (m.take n).1.cd = 0) : m.cd = 0 ∧ m.nx + n.toNat ≤ m.t.length ∧ m.take n = (adv m n.toNat, (m.t.drop m.nx).take n.toNat) := by
  obtain ⟨k, rfl⟩ : ∃ k : Nat, n = k := ⟨n.toNat, by omega⟩
  exact take_ok_of hm h
theorem frsS_sound (v : Int) (sp : Bool) : ∀ (g : Nat) (m : Rd) (acc : List Fr), m.nx ≤ m.t.length → ∃ fs, (frsS v sp g m acc).2 = acc ++ fs ∧
    (∀ f ∈ fs, checkF v f = 0 ∧ f.bo.length ≤ m.t.length ∧ (v = 4 → sp = true → tb f.fm 2 = true)) ∧ m.nx + 6 * fs.length ≤ m.t.length ∧ ((∀ f ∈ fs, spreadB v f.fm = false) → m.nx + (bodyL v fs).length ≤ m.t.length) ∧ m.nx + (fs.map (fun f => f.bo.length)).sum ≤ m.t.length
  | 0, m, acc, hm => ⟨[], by simp [frsS], by simp, by simpa using hm, fun _ => by simpa [bodyL] using hm, by simpa using hm⟩
  | g + 1, m, acc, hm => by
    rw [frsS]
    split
    · rename_i h
      obtain ⟨k, h1, h2, h3, _, h4, _, h5, h6, h7⟩ := frParse_sound v sp m (frParse v sp m).1 (frParse v sp m).2.1 hm (by rw [← h])
      rw [h1]
      obtain ⟨fs, g1, g2, g3, g4, g6⟩ := frsS_sound v sp g (adv m k) (acc ++ [(frParse v sp m).2.1]) h3
      refine ⟨(frParse v sp m).2.1 :: fs, by rw [g1]; simp, ?_, ?_, ?_, ?_⟩
      · intro f hf
        rcases List.mem_cons.1 hf with rfl | hf
        · exact ⟨h4, by omega, h6⟩
        · exact g2 f hf
      · have e : (adv m k).nx = m.nx + k := rfl
        have e2 : (adv m k).t = m.t := rfl
        rw [e, e2] at g3
        rw [List.length_cons]
        omega
      · intro hs
        have g5 := g4 (fun f hf => hs f (List.mem_cons_of_mem _ hf))
        have h8 := h7 (hs _ List.mem_cons_self)
        have e : (adv m k).nx = m.nx + k := rfl
        have e2 : (adv m k).t = m.t := rfl
        rw [e, e2] at g5
        have hb : bodyL v ((frParse v sp m).2.1 :: fs) = printF v (frParse v sp m).2.1 ++ bodyL v fs := by simp [bodyL]
        rw [hb, List.length_append]
        omega
      · have e : (adv m k).nx = m.nx + k := rfl
        have e2 : (adv m k).t = m.t := rfl
        rw [e, e2] at g6
        rw [List.map_cons, List.sum_cons]
        omega
    · exact ⟨[], by simp, by simp, by simpa using hm, fun _ => by simpa [bodyL] using hm, by simpa using hm⟩
theorem skM_nx (v : Int) (fl : UInt8) {m : Rd} (hm : m.nx ≤ m.t.length) : (skM v fl m).nx ≤ (skM v fl m).t.length := by
  have tk : ∀ (r : Rd) (n : Int), r.nx ≤ r.t.length → (r.take n).1.nx ≤ (r.take n).1.t.length := by
    intro r n hr
    unfold Rd.take
    split
    · split
      · unfold Rd.short
        rw [Rd.fail_nx, Rd.fail_t]
        exact hr
      · rename_i h1 h2
        simp only [not_or] at h2
        show r.nx + n.toNat ≤ r.t.length
        omega
    · exact hr
  have sf : ∀ (r : Rd), r.nx ≤ r.t.length → r.safe.1.nx ≤ r.safe.1.t.length := by
    intro r hr
    unfold Rd.safe
    split
    · rw [Rd.fail_nx, Rd.fail_t]
      exact tk _ _ hr
    · exact tk _ _ hr
  unfold skM
  split
  · exact hm
  · split
    · exact tk _ _ (tk _ _ hm)
    · refine tk _ _ ?_
      split
      · rw [Rd.fail_nx, Rd.fail_t]; exact sf _ hm
      · exact sf _ hm
set_option maxRecDepth 100000 in
theorem fl_facts : ∀ n : Nat, n < 256 → (anB (UInt8.ofNat n) 192 = false → anB (UInt8.ofNat n &&& 191) (192 - (192 &&& 64)) = false) ∧ (anB (UInt8.ofNat n) 224 = false → anB (UInt8.ofNat n &&& 191) (224 - (224 &&& 64)) = false) ∧
    (anB (UInt8.ofNat n) 240 = false → anB (UInt8.ofNat n &&& 191) (240 - (240 &&& 64)) = false) ∧ tb (UInt8.ofNat n &&& 191) 128 = tb (UInt8.ofNat n) 128 ∧ tb (UInt8.ofNat n &&& 191) 16 = tb (UInt8.ofNat n) 16 := by decide
theorem fl_keep (fl : UInt8) : tb (fl &&& 191) 128 = tb fl 128 ∧ tb (fl &&& 191) 16 = tb fl 16 := by
  have e : UInt8.ofNat fl.toNat = fl := by simp
  have h := fl_facts fl.toNat (UInt8.toNat_lt fl)
  rw [e] at h
  exact ⟨h.2.2.2.1, h.2.2.2.2⟩
theorem fl_may {v : Int} {fl : UInt8} (hv : letters v ≠ 0) (h : anB fl (allowN v) = false) : anB (fl &&& 191) (allowN v - (allowN v &&& 64)) = false := by
  have e : UInt8.ofNat fl.toNat = fl := by simp
  obtain ⟨a, b, c, _⟩ := fl_facts fl.toNat (UInt8.toNat_lt fl)
  rw [e] at a b c
  rcases letters_of hv with rfl | rfl | rfl
  · exact a h
  · exact b h
  · exact c h
/-- a tag that is read may be printed; if nothing of it is spread, it isn't longer than it was -/
theorem prT_sound (l : List UInt8) (hl : l.length ≤ 24000) (t : Tg) (rest : List UInt8) (q : Int) (h : prT l = (t, rest, 0, q)) :
    (t = zeroT ∧ rest = l ∧ q = 0) ∨ (letters t.v ≠ 0 ∧ q = 0 ∧ checkT t = (0, 0) ∧ 6 * t.fs.length ≤ l.length ∧ (∀ f ∈ t.fs, f.bo.length ≤ l.length) ∧ rest.length + 10 ≤ l.length ∧
      (tb t.fl 128 = false → (∀ f ∈ t.fs, spreadB t.v f.fm = false) → (printT t).length + rest.length ≤ l.length) ∧ (t.fs.map (fun f => f.bo.length)).sum ≤ l.length) := by
  unfold prT at h
  split at h
  · left
    simp only [Prod.mk.injEq] at h
    exact ⟨h.1.symm, h.2.1.symm, h.2.2.2.symm⟩
  rename_i hid
  right
  simp only at h
  generalize ha : hdM (Rd.new l 0) = A at h
  split at h
  · rename_i hc
    simp only [Prod.mk.injEq] at h
    exact absurd h.2.2.1 hc
  rename_i hb0
  have hb0 : (A.1.safe.1.take A.1.safe.2).1.cd = 0 := by simpa using hb0
  have hA1 : (hdM (Rd.new l 0)).1.Ok := hdM_ok (new_ok l 0 (by omega) (by decide))
  rw [ha] at hA1
  have hs0 : A.1.safe.1.cd = 0 := by
    by_cases hx : A.1.safe.1.cd = 0
    · exact hx
    · rw [take_dead hx] at hb0; exact hb0
  obtain ⟨sa, sb, sc⟩ := safe_ok_of hA1.1 hs0
  obtain ⟨_, h1, h2, _, ⟨c, hcv, _⟩, h3, h4, h5, _⟩ := hdM_sound (m := Rd.new l 0) (by simp [Rd.new]) (by rw [ha]; exact sa)
  rw [ha] at h2 hcv h3 h4 h5
  have hn := safe_nonneg A.1
  have hnx : A.1.nx = 6 := by rw [h2]; rfl
  have hAt : A.1.t = l := by rw [h2]; rfl
  obtain ⟨_, tb1, tc⟩ := take_ok_int hn (by rw [sc]; exact sb) hb0
  generalize hk : A.1.safe.2.toNat = k at *
  have e1 : (A.1.safe.1.take A.1.safe.2).1 = adv (Rd.new l 0) (10 + k) := by
    rw [tc, sc, h2]
    simp only [adv_adv]
  have hkl : 10 + k ≤ l.length := by
    rw [sc, h2] at tb1
    have : (0 + 6 + 4 : Nat) + k ≤ l.length := tb1
    omega
  have e2 : (A.1.safe.1.take A.1.safe.2).2.length ≤ k := by
    rw [tc]
    simp only [List.length_take]
    omega
  rw [e1] at h
  generalize (A.1.safe.1.take A.1.safe.2).2 = B at *
  have hbody : (if wholeB A.2.v A.2.fl = true then sndDrop false B else B).length ≤ k := by
    have := sndDrop_len B false
    split <;> omega
  generalize (if wholeB A.2.v A.2.fl = true then sndDrop false B else B) = body at *
  have hsk := skM_t A.2.v A.2.fl (Rd.new body 10)
  have hsn := skM_nx A.2.v A.2.fl (m := Rd.new body 10) (by simp [Rd.new])
  obtain ⟨fs, f1, f2, f3, f4, f5⟩ := frsS_sound A.2.v (tb A.2.fl 128) ((skM A.2.v A.2.fl (Rd.new body 10)).t.length + 1) (skM A.2.v A.2.fl (Rd.new body 10)) [] hsn
  have hst : (skM A.2.v A.2.fl (Rd.new body 10)).t = body := hsk.1
  generalize hM5 : (if footB A.2.v A.2.fl = true then ((((adv (Rd.new l 0) (10 + k)).want [51, 68, 73]).1.want ((l.drop 3).take 7)).1) else adv (Rd.new l 0) (10 + k)) = M5 at h
  split at h
  · rename_i hc
    simp only [Prod.mk.injEq] at h
    exact absurd h.2.2.1 hc
  split at h
  · rename_i hc
    simp only [Prod.mk.injEq] at h
    exact absurd h.2.2.1 hc
  rename_i hm5
  simp only [Prod.mk.injEq, true_and] at h
  obtain ⟨ht, hr, hq⟩ := h
  have hfs : (frsM A.2.v (tb A.2.fl 128) (skM A.2.v A.2.fl (Rd.new body 10))).2 = fs := by
    unfold frsM
    rw [f1, List.nil_append]
  rw [hfs] at ht
  obtain ⟨k1, k2⟩ := fl_keep A.2.fl
  rw [hst] at f2 f3 f4 f5
  have hm5' : (if footB A.2.v A.2.fl = true then ((((adv (Rd.new l 0) (10 + k)).want [51, 68, 73]).1.want ((l.drop 3).take 7)).1) else adv (Rd.new l 0) (10 + k)) = adv (Rd.new l 0) (10 + k + if footB A.2.v A.2.fl = true then 10 else 0) ∧ 10 + k + (if footB A.2.v A.2.fl = true then 10 else 0) ≤ l.length := by
    have hm5 : (if footB A.2.v A.2.fl = true then ((((adv (Rd.new l 0) (10 + k)).want [51, 68, 73]).1.want ((l.drop 3).take 7)).1) else adv (Rd.new l 0) (10 + k)).cd = 0 := by rw [hM5]; simpa using hm5
    by_cases hft : footB A.2.v A.2.fl = true
    · rw [if_pos hft] at hm5 ⊢
      rw [if_pos hft]
      have hx : ((adv (Rd.new l 0) (10 + k)).want [51, 68, 73]).1.cd = 0 := by
        have ok := tg_want_ok (m := adv (Rd.new l 0) (10 + k)) [51, 68, 73] ⟨by show 0 + (10 + k) ≤ l.length; omega, by show l.length ≤ _; omega, by show (0 : Int) ≤ max 0 0; decide, by show max (0 : Int) 0 ≤ 3000000000000; decide⟩
        exact (want_ok_of ok.1 hm5).1
      obtain ⟨_, q1, q2, _⟩ := want_ok_of (m := adv (Rd.new l 0) (10 + k)) (by show 0 + (10 + k) ≤ l.length; omega) hx
      rw [q2] at hm5 ⊢
      obtain ⟨_, q3, q4, _⟩ := want_ok_of (m := adv (adv (Rd.new l 0) (10 + k)) ([51, 68, 73] : List UInt8).length) (by exact q1) hm5
      have q7 : ((l.drop 3).take 7).length = 7 := by rw [List.length_take, List.length_drop]; omega
      rw [q7] at q3 q4
      refine ⟨by rw [q4, adv_adv, adv_adv]; congr 1, ?_⟩
      have : 0 + (10 + k) + 3 + 7 ≤ l.length := q3
      omega
    · rw [if_neg hft, if_neg hft]
      exact ⟨rfl, by omega⟩
  rw [← hM5, hm5'.1] at hr
  generalize hj : 10 + k + (if footB A.2.v A.2.fl = true then 10 else 0) = j at *
  have hrl : rest.length = l.length - j := by
    rw [← hr, rest_of (m := adv (Rd.new l 0) j) (by show 0 + j ≤ l.length; omega) rfl]
    show (l.drop (0 + j)).length = _
    rw [List.length_drop]
    omega
  have hjl : j ≤ l.length := hm5'.2
  have e : t = ⟨A.2.v, A.2.rv, A.2.fl &&& 191, fs⟩ := ht.symm
  subst e
  have hbadH : badH A.2.v A.2.rv (A.2.fl &&& 191) = false := by
    unfold badH
    rw [fl_may h3 h5]
    have : A.2.rv.toNat ≠ 255 := fun e => h4 (by rw [u8_eq]; exact e)
    simp only [Bool.or_eq_false_iff, decide_eq_false_iff_not, and_true]
    exact ⟨h3, by simp; omega⟩
  have hbadF : ∀ f ∈ fs, badIn A.2.v (A.2.fl &&& 191) f = false := by
    intro f hf
    obtain ⟨x1, _, x3⟩ := f2 f hf
    unfold badIn
    rw [k1, x1]
    by_cases h4 : A.2.v = 4
    · cases hsp : tb A.2.fl 128
      · simp
      · rw [x3 h4 hsp]; simp
    · simp [h4]
  refine ⟨h3, hq.symm, ?_, (show 6 * fs.length ≤ l.length by omega), fun f hf => by have := (f2 f hf).2.1; omega, by omega, ?_, (show (fs.map (fun f => f.bo.length)).sum ≤ l.length by omega)⟩
  · unfold checkT
    rw [hbadH]
    have : firstBad A.2.v (A.2.fl &&& 191) fs = fs.length := findIdx_none hbadF
    simp only [this, Bool.false_eq_true, if_false, Nat.lt_irrefl]
    rw [if_neg (by omega)]
  · intro hs hfs
    have g := f4 hfs
    have hw : wholeB A.2.v (A.2.fl &&& 191) = false := by
      unfold wholeB
      split
      · rfl
      · exact hs
    have hft : footB A.2.v (A.2.fl &&& 191) = footB A.2.v A.2.fl := by unfold footB; rw [k2]
    unfold printT tailT bodyT
    simp only [hw, hft, Bool.false_eq_true, if_false, List.length_append, headL_len]
    have : (if footB A.2.v A.2.fl = true then [51, 68, 73] ++ headL A.2.v A.2.rv (A.2.fl &&& 191) (bodyL A.2.v fs).length else []).length = if footB A.2.v A.2.fl = true then 10 else 0 := by
      split <;> simp [headL_len]
    rw [this]
    simp only [List.length_cons, List.length_nil]
    omega
/-- places are of no account -/
theorem checkT_place (t : Tg) (p : Int) : checkT ⟨t.v, t.rv, t.fl, placeF t.v p t.fs⟩ = checkT t := by
  have hb : ∀ (fs : List Fr) (p : Int), firstBad t.v t.fl (placeF t.v p fs) = firstBad t.v t.fl fs := by
    intro fs
    induction fs with
    | nil => intro p; rfl
    | cons f fs ih =>
      intro p
      have e : badIn t.v t.fl { f with pl := p } = badIn t.v t.fl f := rfl
      have ih := ih (p + ((printF t.v f).length : Nat))
      unfold firstBad at ih ⊢
      simp only [placeF, List.findIdx_cons, e, ih]
  unfold checkT
  simp only [hb, placeF_len]
theorem printT_place (t : Tg) (p : Int) : printT ⟨t.v, t.rv, t.fl, placeF t.v p t.fs⟩ = printT t := by
  unfold printT bodyT
  simp only [placeF_body]
end Go.Proofs.Ytmnmonmbdgedbaa
