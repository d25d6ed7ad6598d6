/- Songs (lrc): note, walked. -/
import Derived.Test.YtndpcphmndfajaaGreatDoorZLc2

namespace Go.Proofs.YtndpcphmndfajaaGreatDoor
open Go.RowKit
set_option linter.unusedVariables false
set_option linter.unusedSimpArgs false

theorem sma_int (c : UInt8) : smaB c = (decide ((97 : Int) ≤ c.toNat) && decide ((c.toNat : Int) ≤ 122)) := by
  have a : (97 ≤ c) ↔ ((97 : Int) ≤ c.toNat) := by rw [UInt8.le_iff_toNat_le]; simp; omega
  have b : (c ≤ 122) ↔ ((c.toNat : Int) ≤ 122) := by rw [UInt8.le_iff_toNat_le]; simp; omega
  simp only [smaB, a, b]
theorem nameE_is (s : List UInt8) (e : Nat) (h1 : 1 ≤ e) (he : e ≤ s.length) (h : ∀ i (hi : i < s.length), 1 ≤ i → i < e → smaB s[i] = true) (hx : ∀ (hlt : e < s.length), smaB s[e] = false) : nameE s = e := by
  unfold nameE
  rw [tw_len smaB (s.drop 1) (e - 1) (by rw [List.length_drop]; omega) (fun i hi hlt => by
    rw [List.getElem_drop]; exact h _ _ (by omega) (by omega)) (fun hlt => by
    rw [List.getElem_drop]
    have e9 : 1 + (e - 1) = e := by omega
    simp only [e9]
    exact hx (by rw [List.length_drop] at hlt; omega))]
  omega
theorem strs_blk {w : World} {g : Nat} {a : List UInt8} {T : TypeId} (h : w.heap[g]? = some (.cells #[.string ⟨a.toArray⟩] T (0, 0))) : StrsAt w (some ⟨g, 0, none⟩) 1 [a] := by
  refine ⟨rfl, .inr ⟨g, 0, rfl, (Array.getElem?_eq_some_iff.1 h).1, fun i hi => ?_⟩⟩
  obtain rfl : i = 0 := by simpa using hi
  exact cell_at (j := 0) h

theorem mark_blk (a : List UInt8) (w : World) (g : Nat) (hg : StrsAt w (some ⟨g, 0, none⟩) 1 [a]) (hs : a.length ≤ 1000000000) :
    Calls Tryz.prog 163 #[.slice (some ⟨g, 0, none⟩) 1 1] w fun e w' => e = .returned (.agg #[.bool true, .string ⟨#[109, 97, 114, 107]⟩, .string ⟨a.toArray⟩]) ∧ Below w.heap.size w w' := by
  have h := mark_any (some ⟨g, 0, none⟩) 1 1 [a] w hg (by decide) (by decide) (by simpa using hs)
  have e : [a].flatten = a := by simp
  rw [e] at h
  exact h
theorem strs_a1_drew (w : World) (a : List UInt8) (T : TypeId) (o : Obj) : StrsAt ((w.alloc (.cells #[.string ⟨a.toArray⟩] T)).alloc o).drew (some ⟨w.heap.size, 0, none⟩) 1 [a] := strs_blk (w := (w.alloc (.cells #[.string ⟨a.toArray⟩] T)).alloc o) (at_a1 w _ _ o)
theorem strs_a2_drew (w : World) (a : List UInt8) (T : TypeId) (o : Obj) : StrsAt ((w.alloc o).alloc (.cells #[.string ⟨a.toArray⟩] T)).drew (some ⟨w.heap.size + 1, 0, none⟩) 1 [a] := strs_blk (w := (w.alloc o).alloc (.cells #[.string ⟨a.toArray⟩] T)) (at_a2 w _ _ o)
theorem strs_one_drew (w : World) (a : List UInt8) (T : TypeId) : StrsAt (w.alloc (.cells #[.string ⟨a.toArray⟩] T)).drew (some ⟨w.heap.size, 0, none⟩) 1 [a] := StrsAt.one w a T
/-- what the walk of a note needs where it stands behind the name -/
def NoteAt (s : List UInt8) (e : Nat) : Prop := 1 ≤ e ∧ e + 1 ≤ s.length ∧ nameE s = e
set_option maxHeartbeats 16000000 in
set_option maxRecDepth 100000 in
theorem note_any (s : List UInt8) (w : World) (hs : s.length ≤ 1000000) : Calls Tryz.prog 280 #[.string ⟨s.toArray⟩] w (PcsSay (noteT s) w) := by
  have HP := Lib.hid (fun w => pre_any s 91 w)
  by_cases h0 : s[0]? = some 91
  · have hp : (s[0]? == some 91) = true := by simpa using h0
    rw [hp] at HP
    clear hp
    have HI := Lib.hid (fun w => fir_any s 93 w)
    unfold firI at HI
    have hlen : 0 < s.length := (List.getElem?_eq_some_iff.1 h0).1
    have hleni : (0 : Int) < (s.length : Int) := by omega
    by_cases hk : firstB 93 s = some (s.length - 1)
    · have hT : noteT s = if nameE s = 1 then none else if s[nameE s]? = some 58 then some [markL (s.take (nameE s + 1)), ⟨false, (s.take (nameE s)).drop 1, (s.take (s.length - 1)).drop (nameE s + 1)⟩, markL [93]] else none := by
        unfold noteT; rw [if_pos ⟨h0, hk⟩]
      have HT := Lib.hid hT
      clear hT
      have hlast := (firstB_lt _ _ _ hk).2
      rw [hk] at HI
      have hi1 : ((s.length - 1 : Nat) : Int) = (s.length : Int) - 1 := by omega
      simp only [hi1] at HI
      have HL := Lib.hid hlast
      have H0 := Lib.hid h0
      clear hk hi1 hlast h0
      go_enter Tryz.func280, Tryz.ntmps280
      go_upto_region 4 with (first | (go_at_call 28; refine (HP.out _).mono ?_; rintro e w1 ⟨rfl, rfl⟩) | (go_at_call 326; refine (HI.out _).mono ?_; rintro e w1 ⟨rfl, rfl⟩))
      go_loopw [4] (fun i wr => ∃ (e : Nat), 1 ≤ e ∧ e ≤ s.length ∧ i = .int .i64 e ∧ Hid (∀ i (hi : i < s.length), 1 ≤ i → i < e → smaB s[i] = true) ∧ Hid (wr = w)) (fun i _ => s.length - (intOf i).toNat)
      case atStart => exact ⟨1, by omega, by omega, rfl, Lib.hid (fun i _ h1 h2 => absurd h1 (by omega)), Lib.hid rfl⟩
      case round =>
        obtain ⟨e, he1, hel, rfl, HI2, HW⟩ := hrel
        have hlt : e < s.length := by
          rcases Nat.lt_or_ge e s.length with h | h
          · exact h
          · exfalso
            by_cases hl1 : s.length = 1
            · have h9 := HL.out
              rw [hl1, show 1 - 1 = 0 from rfl, H0.out] at h9
              cases h9
            · have h8 := HI2.out (s.length - 1) (by omega) (by omega) (by omega)
              have h9 := HL.out
              rw [List.getElem?_eq_getElem (by omega)] at h9
              rw [Option.some.inj h9] at h8
              cases h8
        have g0 : (e : Int) < (s.length : Int) := by omega
        have g1 : (e : Int) + 1 ≤ (s.length : Int) := by omega
        have hc := sma_int s[e]
        rcases hA : decide ((97 : Int) ≤ s[e].toNat) with _ | _
        · have hnot : smaB s[e] = false := by rw [hc, hA]; rfl
          have hA3 : ¬ (97 : Int) ≤ s[e].toNat := by simpa using hA
          have HZ := Lib.hid (nameE_is s e he1 (by omega) (fun i hi h1 h2 => HI2.out i hi h1 h2) (fun _ => hnot))
          clear hnot hc
          by_cases e1 : e = 1
          · subst e1
            go_wp2
            go_ret2
            rw [HT.out, if_pos HZ.out]
            exact ⟨rfl, by rw [HW.out]; exact Below.refl _ _⟩
          · have t1 : ((e : Int) == 1) = false := by simp; omega
            have hne : ¬ nameE s = 1 := by rw [HZ.out]; exact e1
            rcases hC : ((s[e].toNat : Int) == 58) with _ | _
            · have hC2 : ((s[e].toNat : Int) != 58) = true := by simpa using hC
              have h58 : ¬ s[nameE s]? = some 58 := by
                rw [HZ.out, List.getElem?_eq_getElem hlt]
                intro h9
                rw [Option.some.inj h9] at hC
                simp at hC
              have HN := Lib.hid (show noteT s = none by rw [HT.out, if_neg hne, if_neg h58])
              clear hC h58 hne e1
              go_wp2
              go_ret2
              rw [HN.out]
              exact ⟨rfl, by rw [HW.out]; exact Below.refl _ _⟩
            · have hC2 : ((s[e].toNat : Int) != 58) = false := by simpa using hC
              have h58 : s[e] = 58 := (u8_lit _ 58 (by decide)).2 (by simpa using hC)
              have hnl : e ≠ s.length - 1 := by
                intro h9
                have hl := HL.out
                rw [← h9, List.getElem?_eq_getElem hlt, h58] at hl
                cases hl
              have HN := Lib.hid (show noteT s = some [markL (s.take (e + 1)), ⟨false, s.tail.take (e - 1), (s.drop (e + 1)).take (s.length - 1 - (e + 1))⟩, markL [93]] by
                have h9 : s[nameE s]? = some 58 := by rw [HZ.out, List.getElem?_eq_getElem hlt, h58]
                rw [HT.out, if_neg hne, if_pos h9, HZ.out, List.drop_take, List.drop_take, List.drop_one])
              have HWW := HW.out
              subst HWW
              clear hC h58 hne e1 HT HZ HI2 HL
              have b1 : IntKind.i64.wrap ((e : Int) + 1) = (e : Int) + 1 := IntWalk.i64_in _ (by omega)
              have b2 : ((e : Int) + 1).toNat = e + 1 := by omega
              have b3 : (0 : Int) ≤ (e : Int) + 1 := by omega
              have b4 : (e : Int) + 1 ≤ (s.length : Int) := by omega
              have b5 : IntKind.i64.wrap ((s.length : Int) - 1) = (s.length : Int) - 1 := IntWalk.i64_in _ (by omega)
              have b6 : ((s.length : Int) - 1).toNat = s.length - 1 := by omega
              have b7 : (e : Int) + 1 ≤ (s.length : Int) - 1 := by omega
              have b8 : (s.length : Int) - 1 ≤ (s.length : Int) := by omega
              have b9 : (1 : Int) ≤ (e : Int) := by omega
              have b10 : (e : Int) ≤ (s.length : Int) := by omega
              have htl : (s.take (e + 1)).length ≤ 1000000000 := by rw [List.length_take]; omega
              have CM := Lib.hid (fun (w : World) (q : Nat) (a : List UInt8) (hq : StrsAt w (some ⟨q, 0, none⟩) 1 [a]) (hl : a.length ≤ 1000000000) => mark_blk a w q hq hl)
              have CT := Lib.hid (fun (n t : List UInt8) w => text_any n t w)
              unfold pcV at CT
              go_upto_region 8 with (fail)
              clear HP HI
              go_region_with (first | (go_at_call 163; refine (CM.out _ _ (s.take (e + 1)) (strs_one_drew wr (s.take (e + 1)) 9) htl).mono ?_; rintro e w2 ⟨rfl, hb2⟩) | (go_at_call 163; refine (CM.out _ _ (s.take (e + 1)) (strs_a1_drew wr (s.take (e + 1)) 9 _) htl).mono ?_; rintro e w2 ⟨rfl, hb2⟩) | (go_at_call 163; refine (CM.out _ _ (s.take (e + 1)) (strs_a2_drew wr (s.take (e + 1)) 9 _) htl).mono ?_; rintro e w2 ⟨rfl, hb2⟩) | (go_at_call 165; refine (CT.out _ _ _).mono ?_; rintro e w3 ⟨rfl, hb3⟩) | (go_at_call 163; refine (CM.out _ _ [93] (StrsAt.one w3 [93] 9) (by decide)).mono ?_; rintro e w4 ⟨rfl, hb4⟩) | (go_at_call 163; refine (CM.out _ _ [93] ((StrsAt.one w2 [93] 9).below hb3) (by decide)).mono ?_; rintro e w4 ⟨rfl, hb4⟩) | (go_at_call 163; refine (CM.out _ _ [93] ((strs_one_drew w2 [93] 9).below hb3) (by decide)).mono ?_; rintro e w4 ⟨rfl, hb4⟩) | (go_at_call 163; refine (CM.out _ _ [93] (((strs_a2_drew wr [93] 9 _).below hb2).below hb3) (by decide)).mono ?_; rintro e w4 ⟨rfl, hb4⟩) | (go_at_call 163; refine (CM.out _ _ [93] (((strs_a1_drew wr [93] 9 _).below hb2).below hb3) (by decide)).mono ?_; rintro e w4 ⟨rfl, hb4⟩))
              all_goals (have K2 : Below wr.heap.size wr w2 := (by first | exact below_a1 ⟨hb2.os, hb2.tape, hb2.output, hb2.size, hb2.block⟩ | exact below_a2 ⟨hb2.os, hb2.tape, hb2.output, hb2.size, hb2.block⟩); have K3 : Below w2.heap.size w2 w3 := (by first | exact hb3 | exact below_a1 hb3 | exact ⟨hb3.os, hb3.tape, hb3.output, hb3.size, hb3.block⟩ | exact below_a1 ⟨hb3.os, hb3.tape, hb3.output, hb3.size, hb3.block⟩); have K5 : Below w3.heap.size w3 w4 := (by first | exact hb4 | exact below_a1 hb4 | exact ⟨hb4.os, hb4.tape, hb4.output, hb4.size, hb4.block⟩ | exact below_a1 ⟨hb4.os, hb4.tape, hb4.output, hb4.size, hb4.block⟩); have K4 := nextB (nextB K2 K3) K5; clear hb2 hb3 hb4 K2 K3 K5 CM CT; go_wp2; go_ret2; rw [HN.out]; exact ⟨_, rfl, toldG_at (ps := [markL (s.take (e + 1)), ⟨false, s.tail.take (e - 1), (s.drop (e + 1)).take (s.length - 1 - (e + 1))⟩, markL [93]]) (at_a0 _ _ _) (by simp), K4.alloc K4.size _⟩)
        · have hA3 : (97 : Int) ≤ s[e].toNat := by simpa using hA
          rcases hB : decide ((s[e].toNat : Int) ≤ 122) with _ | _
          · have hnot : smaB s[e] = false := by rw [hc, hA, hB]; rfl
            have hB3 : ¬ (s[e].toNat : Int) ≤ 122 := by simpa using hB
            have HZ := Lib.hid (nameE_is s e he1 (by omega) (fun i hi h1 h2 => HI2.out i hi h1 h2) (fun _ => hnot))
            clear hnot hc
            by_cases e1 : e = 1
            · subst e1
              go_wp2
              go_ret2
              rw [HT.out, if_pos HZ.out]
              exact ⟨rfl, by rw [HW.out]; exact Below.refl _ _⟩
            · have t1 : ((e : Int) == 1) = false := by simp; omega
              have hne : ¬ nameE s = 1 := by rw [HZ.out]; exact e1
              have hC : ((s[e].toNat : Int) == 58) = false := by
                have h7 : ¬ (s[e].toNat : Int) ≤ 122 := hB3
                simp only [beq_eq_false_iff_ne, ne_eq]
                omega
              have hC2 : ((s[e].toNat : Int) != 58) = true := by simpa using hC
              have h58 : ¬ s[nameE s]? = some 58 := by
                rw [HZ.out, List.getElem?_eq_getElem hlt]
                intro h9
                rw [Option.some.inj h9] at hC
                simp at hC
              have HN := Lib.hid (show noteT s = none by rw [HT.out, if_neg hne, if_neg h58])
              clear hC h58 hne e1
              go_wp2
              go_ret2
              rw [HN.out]
              exact ⟨rfl, by rw [HW.out]; exact Below.refl _ _⟩
          · have hcap : smaB s[e] = true := by rw [hc, hA, hB]; rfl
            have hB3 : (s[e].toNat : Int) ≤ 122 := by simpa using hB
            have HN2 := Lib.hid (show ∀ i (hi : i < s.length), 1 ≤ i → i < e + 1 → smaB s[i] = true from fun i hi h1 h3 => by
              by_cases hie : i < e
              · exact HI2.out i hi h1 hie
              · obtain rfl : i = e := by omega
                exact hcap)
            clear hc hcap
            go_wp2
            exact ⟨⟨e + 1, by omega, by omega, by simp, HN2, HW⟩, by simp [intOf]; omega⟩
    · have hT : noteT s = none := by unfold noteT; rw [if_neg (by intro h; exact hk h.2)]
      have HT := Lib.hid hT
      clear hT
      rcases hf : firstB 93 s with _ | k
      · rw [hf] at HI
        have j1 : ((-1 : Int) != (s.length : Int) - 1) = true := by simp; omega
        clear hf hk h0
        go_enter Tryz.func280, Tryz.ntmps280
        go_wp2_with (first | (go_at_call 28; refine (HP.out _).mono ?_; rintro e w1 ⟨rfl, rfl⟩) | (go_at_call 326; refine (HI.out _).mono ?_; rintro e w1 ⟨rfl, rfl⟩))
        go_ret2
        rw [HT.out]
        exact ⟨rfl, Below.refl _ _⟩
      · rw [hf] at HI
        have j0 : k ≠ s.length - 1 := fun h => hk (by rw [hf, h])
        have j1 : ((k : Int) != (s.length : Int) - 1) = true := by simp; omega
        clear hf hk h0 j0
        go_enter Tryz.func280, Tryz.ntmps280
        go_wp2_with (first | (go_at_call 28; refine (HP.out _).mono ?_; rintro e w1 ⟨rfl, rfl⟩) | (go_at_call 326; refine (HI.out _).mono ?_; rintro e w1 ⟨rfl, rfl⟩))
        go_ret2
        rw [HT.out]
        exact ⟨rfl, Below.refl _ _⟩
  · have hp : (s[0]? == some 91) = false := by simpa using h0
    rw [hp] at HP
    have HT := Lib.hid (show noteT s = none by unfold noteT; rw [if_neg (by intro h; exact h0 h.1)])
    clear hp h0
    go_enter Tryz.func280, Tryz.ntmps280
    go_wp2_with (go_at_call 28; refine (HP.out _).mono ?_; rintro e w1 ⟨rfl, rfl⟩)
    go_ret2
    rw [HT.out]
    exact ⟨rfl, Below.refl _ _⟩
end Go.Proofs.YtndpcphmndfajaaGreatDoor
