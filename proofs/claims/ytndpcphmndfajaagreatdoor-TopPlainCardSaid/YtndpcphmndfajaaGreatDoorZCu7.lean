/- Sheets (cue): Pieces, walked. -/
import Derived.Test.YtndpcphmndfajaaGreatDoorZCu4

namespace Go.Proofs.YtndpcphmndfajaaGreatDoor
open Go.RowKit
set_option linter.unusedVariables false
set_option linter.unusedSimpArgs false

def lastI (r : List UInt8) : Int := match lastB 32 r with
  | none => -1
  | some k => (k : Int)
def LastIdx : Prop := ∀ (r : List UInt8) (w : World), r.length ≤ 1000000 → Calls Tryz.prog 167 #[.string ⟨r.toArray⟩, .string ⟨#[32]⟩] w fun e w' => e = .returned (.int .i64 (lastI r)) ∧ w = w'
theorem say_mono {o : Option (List Pc)} {w w1 : World} {e : Ending} {w' : World} (h : PcsSay o w1 e w') (hb : Below w.heap.size w w1) : PcsSay o w e w' := by
  cases o with
  | none => exact ⟨h.1, nextB hb h.2⟩
  | some ps => obtain ⟨v, h1, h2, h3⟩ := h; exact ⟨v, h1, h2, nextB hb h3⟩
set_option maxHeartbeats 8000000 in
set_option maxRecDepth 100000 in
theorem cue_any (HLI : LastIdx) (eC : ∀ args w, (callFunc 168 args).run Tryz.prog w = .ok (.enter 168 args) w) (eT : ∀ args w, (callFunc 170 args).run Tryz.prog w = .ok (.enter 170 args) w) (s : List UInt8) (w : World) (hs : s.length ≤ 1000000) : Calls Tryz.prog 85 #[.string ⟨s.toArray⟩] w (PcsSay (cueT s) w) := by
  obtain ⟨hbe, hel⟩ := wEnd_le s
  have HW := Lib.hid (fun w => word_any s w (by omega))
  have C1 := Lib.hid (fun w q (a : List UInt8) hq (hl : a.length ≤ 1000000000) => mark_one a w q hq hl)
  have h0 : cueT s = if wBeg s = s.length then some (behP s) else if wEnd s = s.length then wholeT s (decide ((s.drop (wBeg s)).take (wEnd s - wBeg s) = nREM)) else if s[wEnd s]? = some 32 then cueN ((s.drop (wBeg s)).take (wEnd s - wBeg s)) s (wEnd s + 1) else none := rfl
  rw [h0]
  clear h0
  generalize wBeg s = b at *
  generalize wEnd s = e at *
  have i1 : (b : Int) ≤ (e : Int) := by omega
  have i2 : (e : Int) ≤ (s.length : Int) := by omega
  have hl9 : s.length ≤ 1000000000 := by omega
  by_cases h1 : b = s.length
  · rw [if_pos h1]
    by_cases hE : s = []
    · obtain rfl : b = 0 := by rw [h1, hE]; rfl
      subst hE
      clear h1
      go_enter Tryz.func85, Tryz.ntmps85
      go_wp2_with (go_at_call 162; refine (HW.out _).mono ?_; rintro e w1 ⟨rfl, rfl⟩)
      go_ret2
      exact ⟨_, rfl, .inl ⟨rfl, rfl⟩, Below.refl _ _⟩
    · have hb9 : behP s = [markL s] := by unfold behP; rw [if_neg hE]
      have hbE : s.isEmpty = false := by cases s; exact absurd rfl hE; rfl
      have hE2 : (s.isEmpty = true) = False := by rw [hbE]; simp
      have t1 : ((b : Int) == (s.length : Int)) = true := by simp; omega
      rw [hb9]
      clear hb9 hE h1
      go_enter Tryz.func85, Tryz.ntmps85
      go_wp2_with (first | (go_at_call 162; refine (HW.out _).mono ?_; rintro e w1 ⟨rfl, rfl⟩) | (go_at_call 163; refine (C1.out _ _ s (by simp) hl9).mono ?_; rintro e w2 ⟨rfl, hb2⟩))
      go_ret2
      exact ⟨_, rfl, toldG_at (ps := [markL s]) (at_a0 _ _ _) (by simp), (below_a1 hb2).alloc (below_a1 hb2).size _⟩
  rw [if_neg h1]
  have t1 : ((b : Int) == (s.length : Int)) = false := by simp; omega
  clear h1
  by_cases h2 : e = s.length
  · rw [if_pos h2]
    have t2 : ((e : Int) == (s.length : Int)) = true := by simp; omega
    clear h2
    go_enter Tryz.func85, Tryz.ntmps85
    go_upto_region 8 with (go_at_call 162; refine (HW.out _).mono ?_; rintro e w1 ⟨rfl, rfl⟩)
    generalize (s.drop b).take (e - b) = nm at *
    have HC := Lib.hid (fun ok w => cwhole_any s ok w (by omega))
    by_cases hn : nm = nREM
    · obtain rfl : nm = [82, 69, 77] := hn
      have HZ := Lib.hid (show wholeT s (decide (([82, 69, 77] : List UInt8) = nREM)) = some [markL s] by rw [show decide (([82, 69, 77] : List UInt8) = nREM) = true by decide]; rfl)
      have HC1 : Hid (∀ w, Calls Tryz.prog 164 #[.string ⟨s.toArray⟩, .bool true] w (PcsSay (some [markL s]) w)) := Lib.hid (fun w => HC.out true w)
      go_wp2_with (go_at_call 164; refine (HC1.out _).mono ?_; (rintro e w5 ⟨v5, rfl, ht5, hb5⟩))
      go_ret2
      rw [HZ.out]
      exact ⟨_, rfl, ht5, hb5⟩
    · have HZ := Lib.hid (show wholeT s (decide (nm = nREM)) = none by rw [show decide (nm = nREM) = false by simpa using hn]; rfl)
      have n1 : (nm == [82, 69, 77]) = false := by simpa [nREM] using hn
      have n2 : (nm = [82, 69, 77]) = False := by simpa [nREM] using hn
      clear hn
      have HC1 : Hid (∀ w, Calls Tryz.prog 164 #[.string ⟨s.toArray⟩, .bool false] w (PcsSay none w)) := Lib.hid (fun w => HC.out false w)
      go_wp2_with (go_at_call 164; refine (HC1.out _).mono ?_; (rintro e w5 ⟨rfl, hb5⟩))
      go_ret2
      rw [HZ.out]
      exact ⟨rfl, hb5⟩
  rw [if_neg h2]
  have t2 : ((e : Int) == (s.length : Int)) = false := by simp; omega
  have hlt : e < s.length := by omega
  have i3 : (e : Int) < (s.length : Int) := by omega
  clear h2
  have h3 : (s[e]? = some 32) = (((s[e].toNat : Int) == 32) = true) := by
    rw [List.getElem?_eq_getElem hlt]
    have := u8_lit s[e] 32 (by decide)
    simp only [Option.some.injEq, beq_iff_eq]
    exact propext this
  rcases hA : ((s[e].toNat : Int) == 32) with _ | _
  · rw [if_neg (by rw [h3, hA]; simp)]
    have hA2 : ((s[e].toNat : Int) != 32) = true := by simpa using hA
    clear h3 hA
    go_enter Tryz.func85, Tryz.ntmps85
    go_wp2_with (go_at_call 162; refine (HW.out _).mono ?_; rintro e w1 ⟨rfl, rfl⟩)
    go_ret2
    exact ⟨rfl, Below.refl _ _⟩
  rw [if_pos (by rw [h3, hA])]
  have hA2 : ((s[e].toNat : Int) != 32) = false := by simpa using hA
  clear h3 hA
  go_enter Tryz.func85, Tryz.ntmps85
  go_upto_region 13 with (go_at_call 162; refine (HW.out _).mono ?_; rintro e w1 ⟨rfl, rfl⟩)
  clear HW
  obtain ⟨fr, hfr⟩ : ∃ fr : Nat, fr = e + 1 := ⟨_, rfl⟩
  have hfl : fr ≤ s.length := by omega
  have hfi : (fr : Int) ≤ (s.length : Int) := by omega
  rw [show (e : Int) + 1 = (fr : Int) by omega, ← hfr]
  have HFR := Lib.hid hfr
  clear hfr
  generalize (s.drop b).take (e - b) = nm at *
  generalize hr : List.take (s.length - fr) (List.drop fr s) = r at *
  have hr2 : s.drop fr = r := by rw [← hr]; exact (drop_all s _).symm
  have hrl : r.length ≤ 1000000 := by rw [← hr2, List.length_drop]; omega
  have HRR := Lib.hid hr2
  have hrl2 : fr + r.length = s.length := by rw [← hr2, List.length_drop]; omega
  have hcN : cueN nm s fr = if nm = nREM then some [markL (s.take fr), ⟨false, premark, r⟩]
  else if nm = nTITLE then valuedT s ptitle fr s.length
  else if nm = nPERFORMER then valuedT s pperformer fr s.length
  else if nm = nSONGWRITER then valuedT s psongwriter fr s.length
  else if nm = nFILE then (match lastB 32 r with
    | none => none
    | some k => if capsL (r.drop (k + 1)) then valuedT s pfile fr (fr + k) else none)
  else if nm = nTRACK then wholeT s (numbT capsL r)
  else if nm = nINDEX then wholeT s (numbT timedT r)
  else if nm = nPREGAP then wholeT s (timedT r)
  else if nm = nPOSTGAP then wholeT s (timedT r)
  else if nm = nCATALOG then wholeT s (listT' r)
  else if nm = nISRC then wholeT s (listT' r)
  else if nm = nFLAGS then wholeT s (listT' r)
  else none := by rw [← hr2]; rfl
  clear hr hr2
  clear hbe hel i1 i2 t1 t2
  by_cases hnREM : nm = nREM
  · obtain rfl : nm = [82, 69, 77] := hnREM
    have hc : cueN [82, 69, 77] s fr = some [markL (s.take fr), ⟨false, premark, r⟩] := by rw [hcN]; rfl
    clear hcN
    have HZ := Lib.hid hc
    clear hc
    have CT := Lib.hid (fun w => text_any premark r w)
    unfold pcV at CT
    have htl : (s.take fr).length ≤ 1000000000 := by rw [List.length_take]; omega
    go_wp2_with (first | (go_at_call 163; refine (C1.out _ _ (s.take fr) (by simp) htl).mono ?_; rintro e w2 ⟨rfl, hb2⟩) | (go_at_call 165; refine (CT.out _).mono ?_; rintro e w3 ⟨rfl, hb3⟩))
    go_ret2
    have K3 := nextB (below_a1 hb2) hb3
    rw [← HFR.out, HZ.out]
    exact ⟨_, rfl, toldG_at (ps := [markL (s.take fr), ⟨false, premark, r⟩]) (at_a0 _ _ _) (by simp), K3.alloc K3.size _⟩
  by_cases hnTITLE : nm = nTITLE
  · obtain rfl : nm = [84, 73, 84, 76, 69] := hnTITLE
    have hc : cueN [84, 73, 84, 76, 69] s fr = valuedT s ptitle fr s.length := by rw [hcN]; rfl
    clear hcN hnREM
    have HV := Lib.hid (fun w => valued_any s ptitle fr s.length w hs hfl (Nat.le_refl _))
    rcases hv : valuedT s ptitle fr s.length with _ | ps
    · rw [hv] at HV
      have HZ := Lib.hid (hc.trans hv)
      clear hv hc
      go_wp2_with (go_at_call 166; refine (HV.out _).mono ?_; (rintro e w5 ⟨rfl, hb5⟩))
      go_ret2
      rw [← HFR.out, HZ.out]
      exact ⟨rfl, hb5⟩
    · rw [hv] at HV
      have HZ := Lib.hid (hc.trans hv)
      clear hv hc
      go_wp2_with (go_at_call 166; refine (HV.out _).mono ?_; (rintro e w5 ⟨v5, rfl, ht5, hb5⟩))
      go_ret2
      rw [← HFR.out, HZ.out]
      exact ⟨_, rfl, ht5, hb5⟩
  by_cases hnPERFORMER : nm = nPERFORMER
  · obtain rfl : nm = [80, 69, 82, 70, 79, 82, 77, 69, 82] := hnPERFORMER
    have hc : cueN [80, 69, 82, 70, 79, 82, 77, 69, 82] s fr = valuedT s pperformer fr s.length := by rw [hcN]; rfl
    clear hcN hnREM hnTITLE
    have HV := Lib.hid (fun w => valued_any s pperformer fr s.length w hs hfl (Nat.le_refl _))
    rcases hv : valuedT s pperformer fr s.length with _ | ps
    · rw [hv] at HV
      have HZ := Lib.hid (hc.trans hv)
      clear hv hc
      go_wp2_with (go_at_call 166; refine (HV.out _).mono ?_; (rintro e w5 ⟨rfl, hb5⟩))
      go_ret2
      rw [← HFR.out, HZ.out]
      exact ⟨rfl, hb5⟩
    · rw [hv] at HV
      have HZ := Lib.hid (hc.trans hv)
      clear hv hc
      go_wp2_with (go_at_call 166; refine (HV.out _).mono ?_; (rintro e w5 ⟨v5, rfl, ht5, hb5⟩))
      go_ret2
      rw [← HFR.out, HZ.out]
      exact ⟨_, rfl, ht5, hb5⟩
  by_cases hnSONGWRITER : nm = nSONGWRITER
  · obtain rfl : nm = [83, 79, 78, 71, 87, 82, 73, 84, 69, 82] := hnSONGWRITER
    have hc : cueN [83, 79, 78, 71, 87, 82, 73, 84, 69, 82] s fr = valuedT s psongwriter fr s.length := by rw [hcN]; rfl
    clear hcN hnREM hnTITLE hnPERFORMER
    have HV := Lib.hid (fun w => valued_any s psongwriter fr s.length w hs hfl (Nat.le_refl _))
    rcases hv : valuedT s psongwriter fr s.length with _ | ps
    · rw [hv] at HV
      have HZ := Lib.hid (hc.trans hv)
      clear hv hc
      go_wp2_with (go_at_call 166; refine (HV.out _).mono ?_; (rintro e w5 ⟨rfl, hb5⟩))
      go_ret2
      rw [← HFR.out, HZ.out]
      exact ⟨rfl, hb5⟩
    · rw [hv] at HV
      have HZ := Lib.hid (hc.trans hv)
      clear hv hc
      go_wp2_with (go_at_call 166; refine (HV.out _).mono ?_; (rintro e w5 ⟨v5, rfl, ht5, hb5⟩))
      go_ret2
      rw [← HFR.out, HZ.out]
      exact ⟨_, rfl, ht5, hb5⟩
  by_cases hnFILE : nm = nFILE
  · obtain rfl : nm = [70, 73, 76, 69] := hnFILE
    have hc : cueN [70, 73, 76, 69] s fr = (match lastB 32 r with
    | none => none
    | some k => if capsL (r.drop (k + 1)) then valuedT s pfile fr (fr + k) else none) := by rw [hcN]; rfl
    clear hcN hnREM hnTITLE hnPERFORMER hnSONGWRITER
    have HI := Lib.hid (fun w => HLI r w hrl)
    unfold lastI at HI
    rcases hk : lastB 32 r with _ | k
    · rw [hk] at HI
      have HZ := Lib.hid (hc.trans (by rw [hk]))
      clear hk hc
      go_wp2_with (go_at_call 167; refine (HI.out _).mono ?_; rintro e w1 ⟨rfl, rfl⟩)
      go_ret2
      rw [← HFR.out, HZ.out]
      exact ⟨rfl, Below.refl _ _⟩
    · have hkl := lastB_lt _ _ _ hk
      rw [hk] at HI
      have hc2 := hc.trans (show _ = (if capsL (r.drop (k + 1)) then valuedT s pfile fr (fr + k) else none) by rw [hk])
      clear hk hc
      have j1 : ¬ ((k : Int) < 0) := by omega
      have j2 : (k : Int) + 1 ≤ (r.length : Int) := by omega
      have j3 : (k : Int) < (r.length : Int) := by omega
      have HD : Hid (∀ w : World, Calls Tryz.prog 168 #[.string ⟨((r.drop (k + 1)).take (r.length - (k + 1))).toArray⟩] w fun e w' => e = .returned (.bool (capsL (r.drop (k + 1)))) ∧ w = w') := Lib.hid (fun w => by
        rw [drop_all]
        exact caps_any _ w (by rw [List.length_drop]; omega))
      have HV : Hid (∀ w : World, Calls Tryz.prog 166 #[.string ⟨s.toArray⟩, .string ⟨pfile.toArray⟩, .int .i64 fr, .int .i64 ((fr : Int) + (k : Int))] w (PcsSay (valuedT s pfile fr (fr + k)) w)) := Lib.hid (fun w => by
        rw [show (fr : Int) + (k : Int) = ((fr + k : Nat) : Int) by omega]
        exact valued_any s pfile fr (fr + k) w hs (by omega) (by omega))
      have j5 : (fr : Int) + (k : Int) ≤ (s.length : Int) := by omega
      rcases hC : capsL (r.drop (k + 1)) with _ | _
      · rw [hC] at HD
        have HZ := Lib.hid (hc2.trans (by rw [hC]; rfl : _ = (none : Option (List Pc))))
        clear hC HV hc2
        go_wp2_with (first | (go_at_call 167; refine (HI.out _).mono ?_; rintro e w1 ⟨rfl, rfl⟩) | (go_at_call 168; refine (HD.out _).mono ?_; rintro e w2 ⟨rfl, rfl⟩))
        go_ret2
        rw [← HFR.out, HZ.out]
        exact ⟨rfl, Below.refl _ _⟩
      · rw [hC] at HD
        have hc3 := hc2.trans (by rw [hC]; rfl : _ = valuedT s pfile fr (fr + k))
        clear hC hc2
        rcases hv : valuedT s pfile fr (fr + k) with _ | ps
        · rw [hv] at HV
          have HZ := Lib.hid (hc3.trans hv)
          clear hv hc3
          go_wp2_with (first | (go_at_call 167; refine (HI.out _).mono ?_; rintro e w1 ⟨rfl, rfl⟩) | (go_at_call 168; refine (HD.out _).mono ?_; rintro e w2 ⟨rfl, rfl⟩) | (go_at_call 166; refine (HV.out _).mono ?_; (rintro e w5 ⟨rfl, hb5⟩)))
          go_ret2
          rw [← HFR.out, HZ.out]
          exact ⟨rfl, hb5⟩
        · rw [hv] at HV
          have HZ := Lib.hid (hc3.trans hv)
          clear hv hc3
          go_wp2_with (first | (go_at_call 167; refine (HI.out _).mono ?_; rintro e w1 ⟨rfl, rfl⟩) | (go_at_call 168; refine (HD.out _).mono ?_; rintro e w2 ⟨rfl, rfl⟩) | (go_at_call 166; refine (HV.out _).mono ?_; (rintro e w5 ⟨v5, rfl, ht5, hb5⟩)))
          go_ret2
          rw [← HFR.out, HZ.out]
          exact ⟨_, rfl, ht5, hb5⟩
  by_cases hnTRACK : nm = nTRACK
  · obtain rfl : nm = [84, 82, 65, 67, 75] := hnTRACK
    have hc : cueN [84, 82, 65, 67, 75] s fr = wholeT s (numbT capsL r) := by rw [hcN]; rfl
    clear hcN hnREM hnTITLE hnPERFORMER hnSONGWRITER hnFILE
    have HQ : Hid (∀ w : World, Calls Tryz.prog 169 #[.string ⟨r.toArray⟩, .func (.func 168) #[] #[]] w fun e w' => e = .returned (.bool (numbT capsL r)) ∧ Below w.heap.size w w') := Lib.hid (fun w => numb_any 168 capsL eC (fun s w h => (caps_any s w h).mono fun e w' ⟨h1, h2⟩ => ⟨h1, h2 ▸ Below.refl _ _⟩) r w (by omega))
    have HC := Lib.hid (fun ok w => cwhole_any s ok w (by omega))
    generalize numbT capsL r = ok at *
    have HZ0 := Lib.hid hc
    clear hc
    rcases ok with _ | _
    · have HC1 : Hid (∀ w, Calls Tryz.prog 164 #[.string ⟨s.toArray⟩, .bool false] w (PcsSay none w)) := Lib.hid (fun w => HC.out false w)
      go_wp2_with (first | (go_at_call 169; refine (HQ.out _).mono ?_; rintro e w4 ⟨rfl, hb4⟩) | (go_at_call 164; refine (HC1.out _).mono ?_; (rintro e w5 ⟨rfl, hb5⟩)))
      go_ret2
      rw [← HFR.out, HZ0.out]
      exact (show PcsSay none _ _ _ from ⟨rfl, nextB hb4 hb5⟩)
    · have HC1 : Hid (∀ w, Calls Tryz.prog 164 #[.string ⟨s.toArray⟩, .bool true] w (PcsSay (some [markL s]) w)) := Lib.hid (fun w => HC.out true w)
      go_wp2_with (first | (go_at_call 169; refine (HQ.out _).mono ?_; rintro e w4 ⟨rfl, hb4⟩) | (go_at_call 164; refine (HC1.out _).mono ?_; (rintro e w5 ⟨v5, rfl, ht5, hb5⟩)))
      go_ret2
      rw [← HFR.out, HZ0.out]
      exact (show PcsSay (some [markL s]) _ _ _ from ⟨_, rfl, ht5, nextB hb4 hb5⟩)
  by_cases hnINDEX : nm = nINDEX
  · obtain rfl : nm = [73, 78, 68, 69, 88] := hnINDEX
    have hc : cueN [73, 78, 68, 69, 88] s fr = wholeT s (numbT timedT r) := by rw [hcN]; rfl
    clear hcN hnREM hnTITLE hnPERFORMER hnSONGWRITER hnFILE hnTRACK
    have HQ : Hid (∀ w : World, Calls Tryz.prog 169 #[.string ⟨r.toArray⟩, .func (.func 170) #[] #[]] w fun e w' => e = .returned (.bool (numbT timedT r)) ∧ Below w.heap.size w w') := Lib.hid (fun w => numb_any 170 timedT eT timed_any r w (by omega))
    have HC := Lib.hid (fun ok w => cwhole_any s ok w (by omega))
    generalize numbT timedT r = ok at *
    have HZ0 := Lib.hid hc
    clear hc
    rcases ok with _ | _
    · have HC1 : Hid (∀ w, Calls Tryz.prog 164 #[.string ⟨s.toArray⟩, .bool false] w (PcsSay none w)) := Lib.hid (fun w => HC.out false w)
      go_wp2_with (first | (go_at_call 169; refine (HQ.out _).mono ?_; rintro e w4 ⟨rfl, hb4⟩) | (go_at_call 164; refine (HC1.out _).mono ?_; (rintro e w5 ⟨rfl, hb5⟩)))
      go_ret2
      rw [← HFR.out, HZ0.out]
      exact (show PcsSay none _ _ _ from ⟨rfl, nextB hb4 hb5⟩)
    · have HC1 : Hid (∀ w, Calls Tryz.prog 164 #[.string ⟨s.toArray⟩, .bool true] w (PcsSay (some [markL s]) w)) := Lib.hid (fun w => HC.out true w)
      go_wp2_with (first | (go_at_call 169; refine (HQ.out _).mono ?_; rintro e w4 ⟨rfl, hb4⟩) | (go_at_call 164; refine (HC1.out _).mono ?_; (rintro e w5 ⟨v5, rfl, ht5, hb5⟩)))
      go_ret2
      rw [← HFR.out, HZ0.out]
      exact (show PcsSay (some [markL s]) _ _ _ from ⟨_, rfl, ht5, nextB hb4 hb5⟩)
  by_cases hnPREGAP : nm = nPREGAP
  · obtain rfl : nm = [80, 82, 69, 71, 65, 80] := hnPREGAP
    have hc : cueN [80, 82, 69, 71, 65, 80] s fr = wholeT s (timedT r) := by rw [hcN]; rfl
    clear hcN hnREM hnTITLE hnPERFORMER hnSONGWRITER hnFILE hnTRACK hnINDEX
    have HQ := Lib.hid (fun w => timed_any r w (by omega))
    have HC := Lib.hid (fun ok w => cwhole_any s ok w (by omega))
    generalize timedT r = ok at *
    have HZ0 := Lib.hid hc
    clear hc
    rcases ok with _ | _
    · have HC1 : Hid (∀ w, Calls Tryz.prog 164 #[.string ⟨s.toArray⟩, .bool false] w (PcsSay none w)) := Lib.hid (fun w => HC.out false w)
      go_wp2_with (first | (go_at_call 170; refine (HQ.out _).mono ?_; rintro e w4 ⟨rfl, hb4⟩) | (go_at_call 164; refine (HC1.out _).mono ?_; (rintro e w5 ⟨rfl, hb5⟩)))
      go_ret2
      rw [← HFR.out, HZ0.out]
      exact (show PcsSay none _ _ _ from ⟨rfl, nextB hb4 hb5⟩)
    · have HC1 : Hid (∀ w, Calls Tryz.prog 164 #[.string ⟨s.toArray⟩, .bool true] w (PcsSay (some [markL s]) w)) := Lib.hid (fun w => HC.out true w)
      go_wp2_with (first | (go_at_call 170; refine (HQ.out _).mono ?_; rintro e w4 ⟨rfl, hb4⟩) | (go_at_call 164; refine (HC1.out _).mono ?_; (rintro e w5 ⟨v5, rfl, ht5, hb5⟩)))
      go_ret2
      rw [← HFR.out, HZ0.out]
      exact (show PcsSay (some [markL s]) _ _ _ from ⟨_, rfl, ht5, nextB hb4 hb5⟩)
  by_cases hnPOSTGAP : nm = nPOSTGAP
  · obtain rfl : nm = [80, 79, 83, 84, 71, 65, 80] := hnPOSTGAP
    have hc : cueN [80, 79, 83, 84, 71, 65, 80] s fr = wholeT s (timedT r) := by rw [hcN]; rfl
    clear hcN hnREM hnTITLE hnPERFORMER hnSONGWRITER hnFILE hnTRACK hnINDEX hnPREGAP
    have HQ := Lib.hid (fun w => timed_any r w (by omega))
    have HC := Lib.hid (fun ok w => cwhole_any s ok w (by omega))
    generalize timedT r = ok at *
    have HZ0 := Lib.hid hc
    clear hc
    rcases ok with _ | _
    · have HC1 : Hid (∀ w, Calls Tryz.prog 164 #[.string ⟨s.toArray⟩, .bool false] w (PcsSay none w)) := Lib.hid (fun w => HC.out false w)
      go_wp2_with (first | (go_at_call 170; refine (HQ.out _).mono ?_; rintro e w4 ⟨rfl, hb4⟩) | (go_at_call 164; refine (HC1.out _).mono ?_; (rintro e w5 ⟨rfl, hb5⟩)))
      go_ret2
      rw [← HFR.out, HZ0.out]
      exact (show PcsSay none _ _ _ from ⟨rfl, nextB hb4 hb5⟩)
    · have HC1 : Hid (∀ w, Calls Tryz.prog 164 #[.string ⟨s.toArray⟩, .bool true] w (PcsSay (some [markL s]) w)) := Lib.hid (fun w => HC.out true w)
      go_wp2_with (first | (go_at_call 170; refine (HQ.out _).mono ?_; rintro e w4 ⟨rfl, hb4⟩) | (go_at_call 164; refine (HC1.out _).mono ?_; (rintro e w5 ⟨v5, rfl, ht5, hb5⟩)))
      go_ret2
      rw [← HFR.out, HZ0.out]
      exact (show PcsSay (some [markL s]) _ _ _ from ⟨_, rfl, ht5, nextB hb4 hb5⟩)
  by_cases hnCATALOG : nm = nCATALOG
  · obtain rfl : nm = [67, 65, 84, 65, 76, 79, 71] := hnCATALOG
    have hc : cueN [67, 65, 84, 65, 76, 79, 71] s fr = wholeT s (listT' r) := by rw [hcN]; rfl
    clear hcN hnREM hnTITLE hnPERFORMER hnSONGWRITER hnFILE hnTRACK hnINDEX hnPREGAP hnPOSTGAP
    have HQ : Hid (∀ w : World, Calls Tryz.prog 171 #[.string ⟨r.toArray⟩] w fun e w' => e = .returned (.bool (listT' r)) ∧ Below w.heap.size w w') := Lib.hid (fun w => (listed_any r w (by omega)).mono fun e w' ⟨h1, h2⟩ => ⟨h1, h2 ▸ Below.refl _ _⟩)
    have HC := Lib.hid (fun ok w => cwhole_any s ok w (by omega))
    generalize listT' r = ok at *
    have HZ0 := Lib.hid hc
    clear hc
    rcases ok with _ | _
    · have HC1 : Hid (∀ w, Calls Tryz.prog 164 #[.string ⟨s.toArray⟩, .bool false] w (PcsSay none w)) := Lib.hid (fun w => HC.out false w)
      go_wp2_with (first | (go_at_call 171; refine (HQ.out _).mono ?_; rintro e w4 ⟨rfl, hb4⟩) | (go_at_call 164; refine (HC1.out _).mono ?_; (rintro e w5 ⟨rfl, hb5⟩)))
      go_ret2
      rw [← HFR.out, HZ0.out]
      exact (show PcsSay none _ _ _ from ⟨rfl, nextB hb4 hb5⟩)
    · have HC1 : Hid (∀ w, Calls Tryz.prog 164 #[.string ⟨s.toArray⟩, .bool true] w (PcsSay (some [markL s]) w)) := Lib.hid (fun w => HC.out true w)
      go_wp2_with (first | (go_at_call 171; refine (HQ.out _).mono ?_; rintro e w4 ⟨rfl, hb4⟩) | (go_at_call 164; refine (HC1.out _).mono ?_; (rintro e w5 ⟨v5, rfl, ht5, hb5⟩)))
      go_ret2
      rw [← HFR.out, HZ0.out]
      exact (show PcsSay (some [markL s]) _ _ _ from ⟨_, rfl, ht5, nextB hb4 hb5⟩)
  by_cases hnISRC : nm = nISRC
  · obtain rfl : nm = [73, 83, 82, 67] := hnISRC
    have hc : cueN [73, 83, 82, 67] s fr = wholeT s (listT' r) := by rw [hcN]; rfl
    clear hcN hnREM hnTITLE hnPERFORMER hnSONGWRITER hnFILE hnTRACK hnINDEX hnPREGAP hnPOSTGAP hnCATALOG
    have HQ : Hid (∀ w : World, Calls Tryz.prog 171 #[.string ⟨r.toArray⟩] w fun e w' => e = .returned (.bool (listT' r)) ∧ Below w.heap.size w w') := Lib.hid (fun w => (listed_any r w (by omega)).mono fun e w' ⟨h1, h2⟩ => ⟨h1, h2 ▸ Below.refl _ _⟩)
    have HC := Lib.hid (fun ok w => cwhole_any s ok w (by omega))
    generalize listT' r = ok at *
    have HZ0 := Lib.hid hc
    clear hc
    rcases ok with _ | _
    · have HC1 : Hid (∀ w, Calls Tryz.prog 164 #[.string ⟨s.toArray⟩, .bool false] w (PcsSay none w)) := Lib.hid (fun w => HC.out false w)
      go_wp2_with (first | (go_at_call 171; refine (HQ.out _).mono ?_; rintro e w4 ⟨rfl, hb4⟩) | (go_at_call 164; refine (HC1.out _).mono ?_; (rintro e w5 ⟨rfl, hb5⟩)))
      go_ret2
      rw [← HFR.out, HZ0.out]
      exact (show PcsSay none _ _ _ from ⟨rfl, nextB hb4 hb5⟩)
    · have HC1 : Hid (∀ w, Calls Tryz.prog 164 #[.string ⟨s.toArray⟩, .bool true] w (PcsSay (some [markL s]) w)) := Lib.hid (fun w => HC.out true w)
      go_wp2_with (first | (go_at_call 171; refine (HQ.out _).mono ?_; rintro e w4 ⟨rfl, hb4⟩) | (go_at_call 164; refine (HC1.out _).mono ?_; (rintro e w5 ⟨v5, rfl, ht5, hb5⟩)))
      go_ret2
      rw [← HFR.out, HZ0.out]
      exact (show PcsSay (some [markL s]) _ _ _ from ⟨_, rfl, ht5, nextB hb4 hb5⟩)
  by_cases hnFLAGS : nm = nFLAGS
  · obtain rfl : nm = [70, 76, 65, 71, 83] := hnFLAGS
    have hc : cueN [70, 76, 65, 71, 83] s fr = wholeT s (listT' r) := by rw [hcN]; rfl
    clear hcN hnREM hnTITLE hnPERFORMER hnSONGWRITER hnFILE hnTRACK hnINDEX hnPREGAP hnPOSTGAP hnCATALOG hnISRC
    have HQ : Hid (∀ w : World, Calls Tryz.prog 171 #[.string ⟨r.toArray⟩] w fun e w' => e = .returned (.bool (listT' r)) ∧ Below w.heap.size w w') := Lib.hid (fun w => (listed_any r w (by omega)).mono fun e w' ⟨h1, h2⟩ => ⟨h1, h2 ▸ Below.refl _ _⟩)
    have HC := Lib.hid (fun ok w => cwhole_any s ok w (by omega))
    generalize listT' r = ok at *
    have HZ0 := Lib.hid hc
    clear hc
    rcases ok with _ | _
    · have HC1 : Hid (∀ w, Calls Tryz.prog 164 #[.string ⟨s.toArray⟩, .bool false] w (PcsSay none w)) := Lib.hid (fun w => HC.out false w)
      go_wp2_with (first | (go_at_call 171; refine (HQ.out _).mono ?_; rintro e w4 ⟨rfl, hb4⟩) | (go_at_call 164; refine (HC1.out _).mono ?_; (rintro e w5 ⟨rfl, hb5⟩)))
      go_ret2
      rw [← HFR.out, HZ0.out]
      exact (show PcsSay none _ _ _ from ⟨rfl, nextB hb4 hb5⟩)
    · have HC1 : Hid (∀ w, Calls Tryz.prog 164 #[.string ⟨s.toArray⟩, .bool true] w (PcsSay (some [markL s]) w)) := Lib.hid (fun w => HC.out true w)
      go_wp2_with (first | (go_at_call 171; refine (HQ.out _).mono ?_; rintro e w4 ⟨rfl, hb4⟩) | (go_at_call 164; refine (HC1.out _).mono ?_; (rintro e w5 ⟨v5, rfl, ht5, hb5⟩)))
      go_ret2
      rw [← HFR.out, HZ0.out]
      exact (show PcsSay (some [markL s]) _ _ _ from ⟨_, rfl, ht5, nextB hb4 hb5⟩)
  have hc : cueN nm s fr = none := by rw [hcN, if_neg hnREM, if_neg hnTITLE, if_neg hnPERFORMER, if_neg hnSONGWRITER, if_neg hnFILE, if_neg hnTRACK, if_neg hnINDEX, if_neg hnPREGAP, if_neg hnPOSTGAP, if_neg hnCATALOG, if_neg hnISRC, if_neg hnFLAGS]
  have HZ := Lib.hid hc
  clear hc hcN
  have anREM : (nm == [82, 69, 77]) = false := by simpa [nREM] using hnREM
  have bnREM : (nm = [82, 69, 77]) = False := by simpa [nREM] using hnREM
  clear hnREM
  have anTITLE : (nm == [84, 73, 84, 76, 69]) = false := by simpa [nTITLE] using hnTITLE
  have bnTITLE : (nm = [84, 73, 84, 76, 69]) = False := by simpa [nTITLE] using hnTITLE
  clear hnTITLE
  have anPERFORMER : (nm == [80, 69, 82, 70, 79, 82, 77, 69, 82]) = false := by simpa [nPERFORMER] using hnPERFORMER
  have bnPERFORMER : (nm = [80, 69, 82, 70, 79, 82, 77, 69, 82]) = False := by simpa [nPERFORMER] using hnPERFORMER
  clear hnPERFORMER
  have anSONGWRITER : (nm == [83, 79, 78, 71, 87, 82, 73, 84, 69, 82]) = false := by simpa [nSONGWRITER] using hnSONGWRITER
  have bnSONGWRITER : (nm = [83, 79, 78, 71, 87, 82, 73, 84, 69, 82]) = False := by simpa [nSONGWRITER] using hnSONGWRITER
  clear hnSONGWRITER
  have anFILE : (nm == [70, 73, 76, 69]) = false := by simpa [nFILE] using hnFILE
  have bnFILE : (nm = [70, 73, 76, 69]) = False := by simpa [nFILE] using hnFILE
  clear hnFILE
  have anTRACK : (nm == [84, 82, 65, 67, 75]) = false := by simpa [nTRACK] using hnTRACK
  have bnTRACK : (nm = [84, 82, 65, 67, 75]) = False := by simpa [nTRACK] using hnTRACK
  clear hnTRACK
  have anINDEX : (nm == [73, 78, 68, 69, 88]) = false := by simpa [nINDEX] using hnINDEX
  have bnINDEX : (nm = [73, 78, 68, 69, 88]) = False := by simpa [nINDEX] using hnINDEX
  clear hnINDEX
  have anPREGAP : (nm == [80, 82, 69, 71, 65, 80]) = false := by simpa [nPREGAP] using hnPREGAP
  have bnPREGAP : (nm = [80, 82, 69, 71, 65, 80]) = False := by simpa [nPREGAP] using hnPREGAP
  clear hnPREGAP
  have anPOSTGAP : (nm == [80, 79, 83, 84, 71, 65, 80]) = false := by simpa [nPOSTGAP] using hnPOSTGAP
  have bnPOSTGAP : (nm = [80, 79, 83, 84, 71, 65, 80]) = False := by simpa [nPOSTGAP] using hnPOSTGAP
  clear hnPOSTGAP
  have anCATALOG : (nm == [67, 65, 84, 65, 76, 79, 71]) = false := by simpa [nCATALOG] using hnCATALOG
  have bnCATALOG : (nm = [67, 65, 84, 65, 76, 79, 71]) = False := by simpa [nCATALOG] using hnCATALOG
  clear hnCATALOG
  have anISRC : (nm == [73, 83, 82, 67]) = false := by simpa [nISRC] using hnISRC
  have bnISRC : (nm = [73, 83, 82, 67]) = False := by simpa [nISRC] using hnISRC
  clear hnISRC
  have anFLAGS : (nm == [70, 76, 65, 71, 83]) = false := by simpa [nFLAGS] using hnFLAGS
  have bnFLAGS : (nm = [70, 76, 65, 71, 83]) = False := by simpa [nFLAGS] using hnFLAGS
  clear hnFLAGS
  go_wp2
  go_ret2
  rw [← HFR.out, HZ.out]
  exact ⟨rfl, Below.refl _ _⟩
end Go.Proofs.YtndpcphmndfajaaGreatDoor
