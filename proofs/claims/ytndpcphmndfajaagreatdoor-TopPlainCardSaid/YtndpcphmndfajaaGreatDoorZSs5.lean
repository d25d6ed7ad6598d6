/- Scripts (ssa): event, walked. -/
import Derived.Test.YtndpcphmndfajaaGreatDoorZLc2
import Derived.Test.YtndpcphmndfajaaGreatDoorZCu4

namespace Go.Proofs.YtndpcphmndfajaaGreatDoor
open Go.RowKit
set_option linter.unusedVariables false
set_option linter.unusedSimpArgs false

theorem splitC_max : ∀ (k : Nat) (s : List UInt8), (splitC k s).length ≤ k + 1
  | 0, s => by simp [splitC]
  | k + 1, s => by
    unfold splitC
    rcases hf : firstB 44 s with _ | i
    · simp
    · have := splitC_max k (s.drop (i + 1))
      simp
      omega
def comT (k : Nat) (ps : List (List UInt8)) : List Pc := if k = 0 ∨ ps = [] then [] else [markL [44]]
/-- the pieces so far, and those that are to come -/
def EvI (fs ps : List (List UInt8)) (k : Nat) (acc : List Pc) : Prop := evP fs ps = (evP (fs.drop k) (ps.drop k)).map fun l => acc ++ (comT k (ps.drop k) ++ l)
theorem EvI.start (fs ps : List (List UInt8)) : EvI fs ps 0 [] := by
  unfold EvI comT
  simp
theorem EvI.done {fs ps : List (List UInt8)} {k : Nat} {acc : List Pc} (h : EvI fs ps k acc) (hk : ps.length ≤ k) : evP fs ps = some acc := by
  unfold EvI at h
  rw [List.drop_eq_nil_of_le hk] at h
  rw [h]
  simp [evP, comT]
theorem evP_cons (f p : List UInt8) (fr pr : List (List UInt8)) : evP (f :: fr) (p :: pr) = if f = stL ∨ f = enL then (if likeL p smomL then (evP fr pr).map fun l => markL p :: (if pr = [] then l else markL [44] :: l) else none)
    else (evP fr pr).map fun l => ⟨false, f, p⟩ :: (if pr = [] then l else markL [44] :: l) := rfl
theorem EvI.fail {fs ps : List (List UInt8)} {k : Nat} {acc : List Pc} (h : EvI fs ps k acc) (h1 : k < fs.length) (h2 : k < ps.length) (hf : fs[k] = stL ∨ fs[k] = enL) (hp : likeL ps[k] smomL = false) : evP fs ps = none := by
  unfold EvI at h
  rw [List.drop_eq_getElem_cons h1, List.drop_eq_getElem_cons h2, evP_cons, if_pos hf, hp] at h
  simpa using h
theorem EvI.step {fs ps : List (List UInt8)} {k : Nat} {acc : List Pc} (h : EvI fs ps k acc) (h1 : k < fs.length) (h2 : k < ps.length) (q : Pc)
    (hq : (evP (fs.drop k) (ps.drop k)) = (evP (fs.drop (k + 1)) (ps.drop (k + 1))).map fun l => q :: (if ps.drop (k + 1) = [] then l else markL [44] :: l)) : EvI fs ps (k + 1) (acc ++ (if k = 0 then [] else [markL [44]]) ++ [q]) := by
  unfold EvI at h ⊢
  rw [h, hq]
  have hne : ps.drop k ≠ [] := by intro e; have := congrArg List.length e; rw [List.length_drop] at this; simp at this; omega
  have hc : comT k (ps.drop k) = if k = 0 then [] else [markL [44]] := by unfold comT; simp [hne]
  have hc2 : comT (k + 1) (ps.drop (k + 1)) = if ps.drop (k + 1) = [] then [] else [markL [44]] := by unfold comT; simp
  rw [hc, hc2]
  rcases evP (fs.drop (k + 1)) (ps.drop (k + 1)) with _ | l
  · rfl
  · simp only [Option.map_some, Option.some.injEq]
    by_cases hp : ps.drop (k + 1) = []
    · simp [hp]
    · simp [hp]
theorem ev_mark {fs ps : List (List UInt8)} {k : Nat} (h1 : k < fs.length) (h2 : k < ps.length) (hf : fs[k] = stL ∨ fs[k] = enL) (hp : likeL ps[k] smomL = true) :
    (evP (fs.drop k) (ps.drop k)) = (evP (fs.drop (k + 1)) (ps.drop (k + 1))).map fun l => markL ps[k] :: (if ps.drop (k + 1) = [] then l else markL [44] :: l) := by
  rw [List.drop_eq_getElem_cons h1, List.drop_eq_getElem_cons h2, evP_cons, if_pos hf, if_pos hp]
theorem ev_text {fs ps : List (List UInt8)} {k : Nat} (h1 : k < fs.length) (h2 : k < ps.length) (hf : ¬ (fs[k] = stL ∨ fs[k] = enL)) :
    (evP (fs.drop k) (ps.drop k)) = (evP (fs.drop (k + 1)) (ps.drop (k + 1))).map fun l => ⟨false, fs[k], ps[k]⟩ :: (if ps.drop (k + 1) = [] then l else markL [44] :: l) := by
  rw [List.drop_eq_getElem_cons h1, List.drop_eq_getElem_cons h2, evP_cons, if_neg hf]

theorem recs_snoc (hd : List UInt8) (L : List Pc) (q : Pc) : ((markL hd :: (L ++ [q])).map pcR) = (markL hd :: L).map pcR ++ [pcR q] := by simp
theorem stamp_cases (f : List UInt8) : (((((f = [83, 116, 97, 114, 116]) = True ∧ (f == [83, 116, 97, 114, 116]) = true)) ∨ ((f = [83, 116, 97, 114, 116]) = False ∧ (f == [83, 116, 97, 114, 116]) = false ∧ (f = [69, 110, 100]) = True ∧ (f == [69, 110, 100]) = true)) ∧ (f = stL ∨ f = enL)) ∨
    ((f = [83, 116, 97, 114, 116]) = False ∧ (f == [83, 116, 97, 114, 116]) = false ∧ (f = [69, 110, 100]) = False ∧ (f == [69, 110, 100]) = false ∧ ¬ (f = stL ∨ f = enL)) := by
  unfold stL enL
  by_cases h1 : f = [83, 116, 97, 114, 116]
  · exact .inl ⟨.inl ⟨by simp [h1], by simp [h1]⟩, .inl h1⟩
  · by_cases h2 : f = [69, 110, 100]
    · exact .inl ⟨.inr ⟨by simp [h1], by simpa using h1, by simp [h2], by simp [h2]⟩, .inr h2⟩
    · exact .inr ⟨by simp [h1], by simpa using h1, by simp [h2], by simpa using h2, by simp [h1, h2]⟩

set_option maxHeartbeats 4000000 in
set_option maxRecDepth 100000 in
theorem event_any (b : Nat) (c : Sc) (hd v : List UInt8) (w : World) (h : ScI b c w) (hl : v.length ≤ 1000000) (hh : hd.length ≤ 1000000) : Calls Tryz.prog 278 #[.pointer (some ⟨b, 0, none⟩), .string ⟨hd.toArray⟩, .string ⟨v.toArray⟩] w (PcsSay (eventT c hd v) w) := by
  obtain ⟨⟨v0, hX, hV⟩, hT⟩ := h
  have X := Lib.hid hX
  have TT := Lib.hid hT
  clear hX hT
  unfold eventT
  obtain ⟨x0, x1, x2⟩ := cells3 (X.out)
  rcases hV with ⟨ht, -, rfl⟩ | ⟨ht, hn1, hn2, g, rfl, hG⟩
  · rw [ht] at x1 ⊢
    simp only [Bool.false_eq_true, if_false]
    go_enter Tryz.func278, Tryz.ntmps278
    go_wp2
    go_ret2
    exact ⟨rfl, Below.refl _ _⟩
  rw [ht] at x1 ⊢
  simp only [if_true]
  have G := Lib.hid hG
  have CS := Lib.hid (splitN_any v c.fs.length w TT.out hl hn1 hn2)
  have hmax := splitC_max (min c.fs.length (v.length + 1) - 1) v
  have hlim : (splitC (min c.fs.length (v.length + 1) - 1) v).length ≤ c.fs.length := by omega
  have hPL := Lib.hid (fun f (hf : f ∈ splitC (min c.fs.length (v.length + 1) - 1) v) => Nat.le_trans (splitC_le _ _ f hf) hl)
  clear hmax hG
  generalize splitC (min c.fs.length (v.length + 1) - 1) v = ps at *
  generalize min c.fs.length (v.length + 1) = N at *
  obtain ⟨ev, told, fs⟩ := c
  simp only at *
  by_cases hlt : ps.length < fs.length
  · rw [if_pos hlt]
    have q0 : (ps.length : Int) < (fs.length : Int) := by omega
    go_enter Tryz.func278, Tryz.ntmps278
    go_upto_region 4 with (go_at_call 325; refine (CS.out).mono ?_; rintro e w1 ⟨Z, rfl, rfl⟩)
    have hbl := (Array.getElem?_eq_some_iff.1 X.out).1
    have X1 := Lib.hid ((heap_alloc_old w (.cells (strC ps ++ Z).toArray 9) hbl).trans X.out)
    have K1 := Lib.hid ((Below.refl w.heap.size w).alloc (Nat.le_refl _) (.cells (strC ps ++ Z).toArray 9))
    clear x0 x1 x2
    generalize w.alloc (.cells (strC ps ++ Z).toArray 9) = w1 at *
    obtain ⟨x0, x1, x2⟩ := cells3 (X1.out)
    go_wp2
    go_ret2
    exact ⟨rfl, K1.out⟩
  · rw [if_neg hlt]
    have hpf : ps.length = fs.length := by omega
    have q0 : ¬ (ps.length : Int) < (fs.length : Int) := by omega
    obtain ⟨o, ho⟩ : ∃ o, o = Option.map (fun l => markL hd :: l) (evP fs ps) := ⟨_, rfl⟩
    rw [← ho]
    have HO := Lib.hid ho
    clear ho
    have CM := Lib.hid (fun w g hg => mark_one hd w g hg (by omega))
    have C1 := Lib.hid (fun w q (a : List UInt8) hq (hl : a.length ≤ 1000000000) => mark_one a w q hq hl)
    have CT := Lib.hid (fun w n (t : List UInt8) => text_any n t w)
    unfold pcV at CT
    have CL := Lib.hid (fun w (t : List UInt8) (h : t.length ≤ 1000000000) => like_any t smomL w h (by decide))
    go_enter Tryz.func278, Tryz.ntmps278
    go_upto_region 4 with (go_at_call 325; refine (CS.out).mono ?_; rintro e w1 ⟨Z, rfl, rfl⟩)
    have hbl := (Array.getElem?_eq_some_iff.1 X.out).1
    have hgl := (Array.getElem?_eq_some_iff.1 G.out).1
    have X1 := Lib.hid ((heap_alloc_old w (.cells (strC ps ++ Z).toArray 9) hbl).trans X.out)
    have G1 := Lib.hid ((heap_alloc_old w (.cells (strC ps ++ Z).toArray 9) hgl).trans G.out)
    have P1 := Lib.hid (at_a0 w (strC ps ++ Z).toArray 9)
    have K1 := Lib.hid ((Below.refl w.heap.size w).alloc (Nat.le_refl _) (.cells (strC ps ++ Z).toArray 9))
    clear x0 x1 x2 CS
    generalize w.alloc (.cells (strC ps ++ Z).toArray 9) = w1 at *
    obtain ⟨pb, hpb⟩ : ∃ pb, pb = w.heap.size := ⟨_, rfl⟩
    rw [← hpb]
    rw [← hpb] at P1
    clear hpb
    obtain ⟨x0, x1, x2⟩ := cells3 (X1.out)
    go_wp2_with (go_at_call 163; refine (CM.out _ _ (by simp)).mono ?_; rintro e w2 ⟨rfl, hb2⟩)
    have K2 : Below w1.heap.size w1 w2 := below_a1 hb2
    have HR := Lib.hid (show Recs (w2.alloc (.cells #[.bool true, .string ⟨#[109, 97, 114, 107]⟩, .string ⟨hd.toArray⟩] 135)) w1.heap.size 135 3 (.slice (some ⟨w2.heap.size, 0, none⟩) 1 1) (([markL hd] : List Pc).map pcR) from
      ⟨by simp [pcR], World.ownsRow_lit w2 _ 1 K2.size (by decide) rfl⟩)
    have K3 := Lib.hid (K2.alloc K2.size (.cells #[.bool true, .string ⟨#[109, 97, 114, 107]⟩, .string ⟨hd.toArray⟩] 135))
    clear hb2 K2
    go_loopw [9, 39] (fun l i wr => ∃ (k : Nat) (acc : List Pc), k ≤ fs.length ∧ acc.length ≤ 2 * k ∧ i = .int .i64 k ∧ Hid (EvI fs ps k acc) ∧ Hid (Recs wr w1.heap.size 135 3 l ((markL hd :: acc).map pcR)) ∧ Hid (Below w1.heap.size w1 wr)) (fun _ i _ => fs.length - (intOf i).toNat)
    case atStart => exact ⟨0, [], by omega, by simp, rfl, Lib.hid (EvI.start fs ps), HR, K3⟩
    case round =>
      obtain ⟨k, acc, hk, hac, rfl, HE, HRR, HB⟩ := hrel
      by_cases hlt : k < fs.length
      · have hkp : k < ps.length := by omega
        have q1 : (k : Int) < (ps.length : Int) := by omega
        have q2 : (k : Int) < (fs.length : Int) := by omega
        have hpl := hPL.out _ (List.getElem_mem hkp)
        have HP := Lib.hid (block_below P1.out HB.out)
        have cp : wr.cell? ⟨pb, k, none⟩ = some (.string ⟨ps[k].toArray⟩) := (cell_at (j := k) HP.out).trans (by rw [List.getElem?_toArray, List.getElem?_append_left (by unfold strC; rw [List.length_map]; exact hkp)]; unfold strC; rw [List.getElem?_map, List.getElem?_eq_getElem hkp]; rfl)
        have HST := Lib.hid (fun q hq => EvI.step HE.out hlt hkp q hq)
        have HFL := Lib.hid (fun h1 h2 => EvI.fail HE.out hlt hkp h1 h2)
        have HMK := Lib.hid (fun h1 h2 => ev_mark (fs := fs) (ps := ps) hlt hkp h1 h2)
        have HTX := Lib.hid (fun h1 => ev_text (fs := fs) (ps := ps) hlt hkp h1)
        have cgf : (strC fs).toArray[k]? = some (.string ⟨fs[k].toArray⟩) := by rw [List.getElem?_toArray]; unfold strC; rw [List.getElem?_map, List.getElem?_eq_getElem hlt]; rfl
        have CG := Lib.hid cgf
        clear cgf HE
        generalize ps[k] = p at *
        generalize fs[k] = f at *
        obtain ⟨accm, hm⟩ : ∃ accm, accm = acc ++ (if k = 0 then [] else [markL [44]]) := ⟨_, rfl⟩
        rw [← hm] at HST
        have hal : acc.length ≤ 2000002 := by omega
        by_cases hk0 : k = 0
        · have j0 : ¬ (0 : Int) < (k : Int) := by omega
          rw [if_pos hk0, List.append_nil] at hm
          clear hk0
          go_upto_region 12 with (fail)
          have HR6 := HRR
          have HB6 := HB
          rw [← hm] at HR6
          have ham : accm.length ≤ 2 * k + 1 := by rw [hm]; omega
          clear HRR HB hm hac hal cp HP
          generalize wr = w6 at *
          generalize u9 = v6 at *
          have hal2 : accm.length ≤ 3000000 := by omega
          have X6 := Lib.hid (block_below X1.out HB6.out)
          have G6 := Lib.hid (block_below G1.out HB6.out)
          have cg : w6.cell? ⟨g, k, none⟩ = some (.string ⟨f.toArray⟩) := (cell_at (j := k) G6.out).trans CG.out
          obtain ⟨y0, y1, y2⟩ := cells3 (X6.out); obtain ⟨yf0, yf1, yf2⟩ := frees3 (X6.out)
          rcases stamp_cases f with ⟨hs, hf⟩ | ⟨d1, d2, d3, d4, hf⟩
          · have CLp := Lib.hid (fun w => CL.out w p (by omega))
            rcases hL : likeL p smomL with _ | _
            · rw [hL] at CLp
              have HZ := Lib.hid (show o = none by rw [HO.out, HFL.out hf hL]; rfl)
              clear hL
              rcases hs with ⟨d1, d2⟩ | ⟨d1, d2, d3, d4⟩
              · clear hf
                go_wp2_with (go_at_call 84; refine (CLp.out _).mono ?_; rintro e w7 ⟨rfl, hb7⟩)
                go_ret2
                rw [HZ.out]
                exact ⟨rfl, nextB (nextB K1.out HB6.out) hb7⟩
              · clear hf
                go_wp2_with (go_at_call 84; refine (CLp.out _).mono ?_; rintro e w7 ⟨rfl, hb7⟩)
                go_ret2
                rw [HZ.out]
                exact ⟨rfl, nextB (nextB K1.out HB6.out) hb7⟩
            · rw [hL] at CLp
              have HM9 := Lib.hid (HMK.out hf hL)
              clear hL
              rcases hs with ⟨d1, d2⟩ | ⟨d1, d2, d3, d4⟩
              · clear hf
                go_wp2_with (first | (go_at_call 84; refine (CLp.out _).mono ?_; rintro e w7 ⟨rfl, hb7⟩; have HR7 := Lib.hid (HR6.out.below hb7); have HB7 := Lib.hid (nextB HB6.out hb7)) | (go_at_call 163; refine (C1.out _ _ p (by simp) (by omega)).mono ?_; rintro e w4 ⟨rfl, hb4⟩; have HR4 := Lib.hid (Recs.below (HR7.out.alloc (.cells #[.string ⟨p.toArray⟩] 9)) hb4); have K5 := Lib.hid (nextB HB7.out (below_a1 hb4))) | (at_builtin; refine wpList_pushR w4 rfl (.tmp 73) (.tmp 77) 54 rfl w1.heap.size 135 3 40 _ Tryz.underlying54 info_Piece rfl (by decide) (by decide) _ ((markL hd :: accm).map pcR) (pcR (markL p)) _ (by rfl) rfl (one_pcR _) (by rfl) HR4.out (by rfl) (by simp; omega) K5.out.size _ ?_; intro v5 w5 hr5 hg5))
                exact ⟨⟨k + 1, accm ++ [(markL p)], by omega, by rw [List.length_append, List.length_singleton]; omega, by simp, Lib.hid (HST.out (markL p) HM9.out), Lib.hid (by rw [recs_snoc]; exact hr5), Lib.hid (grown_below K5.out hg5 (fun k hk => (HR4.out.lt k hk).1))⟩, by simp [intOf]; omega⟩
              · clear hf
                go_wp2_with (first | (go_at_call 84; refine (CLp.out _).mono ?_; rintro e w7 ⟨rfl, hb7⟩; have HR7 := Lib.hid (HR6.out.below hb7); have HB7 := Lib.hid (nextB HB6.out hb7)) | (go_at_call 163; refine (C1.out _ _ p (by simp) (by omega)).mono ?_; rintro e w4 ⟨rfl, hb4⟩; have HR4 := Lib.hid (Recs.below (HR7.out.alloc (.cells #[.string ⟨p.toArray⟩] 9)) hb4); have K5 := Lib.hid (nextB HB7.out (below_a1 hb4))) | (at_builtin; refine wpList_pushR w4 rfl (.tmp 73) (.tmp 77) 54 rfl w1.heap.size 135 3 40 _ Tryz.underlying54 info_Piece rfl (by decide) (by decide) _ ((markL hd :: accm).map pcR) (pcR (markL p)) _ (by rfl) rfl (one_pcR _) (by rfl) HR4.out (by rfl) (by simp; omega) K5.out.size _ ?_; intro v5 w5 hr5 hg5))
                exact ⟨⟨k + 1, accm ++ [(markL p)], by omega, by rw [List.length_append, List.length_singleton]; omega, by simp, Lib.hid (HST.out (markL p) HM9.out), Lib.hid (by rw [recs_snoc]; exact hr5), Lib.hid (grown_below K5.out hg5 (fun k hk => (HR4.out.lt k hk).1))⟩, by simp [intOf]; omega⟩
          · have HM9 := Lib.hid (HTX.out hf)
            have CTp := Lib.hid (fun w => CT.out w f p)
            clear hf
            go_wp2_with (first | (go_at_call 165; refine (CTp.out _).mono ?_; rintro e w4 ⟨rfl, hb4⟩; have HR4 := Lib.hid (HR6.out.below hb4); have K5 := Lib.hid (nextB HB6.out hb4)) | (at_builtin; refine wpList_pushR w4 rfl (.tmp 64) (.tmp 68) 54 rfl w1.heap.size 135 3 40 _ Tryz.underlying54 info_Piece rfl (by decide) (by decide) _ ((markL hd :: accm).map pcR) (pcR ⟨false, f, p⟩) _ (by rfl) rfl (one_pcR _) (by rfl) HR4.out (by rfl) (by simp; omega) K5.out.size _ ?_; intro v5 w5 hr5 hg5))
            exact ⟨⟨k + 1, accm ++ [⟨false, f, p⟩], by omega, by rw [List.length_append, List.length_singleton]; omega, by simp, Lib.hid (HST.out ⟨false, f, p⟩ HM9.out), Lib.hid (by rw [recs_snoc]; exact hr5), Lib.hid (grown_below K5.out hg5 (fun k hk => (HR4.out.lt k hk).1))⟩, by simp [intOf]; omega⟩
        · have j0 : (0 : Int) < (k : Int) := by omega
          rw [if_neg hk0] at hm
          clear hk0
          go_upto_region 12 with (first | (go_at_call 163; refine (C1.out _ _ [44] (by simp) (by simp)).mono ?_; rintro e w4 ⟨rfl, hb4⟩; have HR4 := Lib.hid (Recs.below (HRR.out.alloc (.cells #[.string ⟨[44].toArray⟩] 9)) hb4); have K5 := Lib.hid (nextB HB.out (below_a1 hb4))) | (at_builtin; refine wpList_pushR w4 rfl (.tmp 46) (.tmp 49) 54 rfl w1.heap.size 135 3 40 _ Tryz.underlying54 info_Piece rfl (by decide) (by decide) _ ((markL hd :: acc).map pcR) (pcR (markL [44])) _ (by rfl) rfl (one_pcR _) (by rfl) HR4.out (by rfl) (by simp; omega) K5.out.size _ ?_; intro v5 w5 hr5 hg5))
          have HR6 := Lib.hid (show Recs w5 w1.heap.size 135 3 v5 ((markL hd :: accm).map pcR) by rw [hm, recs_snoc]; exact hr5)
          have HB6 := Lib.hid (grown_below K5.out hg5 (fun k hk => (HR4.out.lt k hk).1))
          have ham : accm.length ≤ 2 * k + 1 := by rw [hm, List.length_append, List.length_singleton]; omega
          clear HRR HB hm hac hal cp HP HR4 K5 hb4 hr5 hg5
          generalize w5 = w6 at *
          generalize v5 = v6 at *
          have hal2 : accm.length ≤ 3000000 := by omega
          have X6 := Lib.hid (block_below X1.out HB6.out)
          have G6 := Lib.hid (block_below G1.out HB6.out)
          have cg : w6.cell? ⟨g, k, none⟩ = some (.string ⟨f.toArray⟩) := (cell_at (j := k) G6.out).trans CG.out
          obtain ⟨y0, y1, y2⟩ := cells3 (X6.out); obtain ⟨yf0, yf1, yf2⟩ := frees3 (X6.out)
          rcases stamp_cases f with ⟨hs, hf⟩ | ⟨d1, d2, d3, d4, hf⟩
          · have CLp := Lib.hid (fun w => CL.out w p (by omega))
            rcases hL : likeL p smomL with _ | _
            · rw [hL] at CLp
              have HZ := Lib.hid (show o = none by rw [HO.out, HFL.out hf hL]; rfl)
              clear hL
              rcases hs with ⟨d1, d2⟩ | ⟨d1, d2, d3, d4⟩
              · clear hf
                go_wp2_with (go_at_call 84; refine (CLp.out _).mono ?_; rintro e w7 ⟨rfl, hb7⟩)
                go_ret2
                rw [HZ.out]
                exact ⟨rfl, nextB (nextB K1.out HB6.out) hb7⟩
              · clear hf
                go_wp2_with (go_at_call 84; refine (CLp.out _).mono ?_; rintro e w7 ⟨rfl, hb7⟩)
                go_ret2
                rw [HZ.out]
                exact ⟨rfl, nextB (nextB K1.out HB6.out) hb7⟩
            · rw [hL] at CLp
              have HM9 := Lib.hid (HMK.out hf hL)
              clear hL
              rcases hs with ⟨d1, d2⟩ | ⟨d1, d2, d3, d4⟩
              · clear hf
                go_wp2_with (first | (go_at_call 84; refine (CLp.out _).mono ?_; rintro e w7 ⟨rfl, hb7⟩; have HR7 := Lib.hid (HR6.out.below hb7); have HB7 := Lib.hid (nextB HB6.out hb7)) | (go_at_call 163; refine (C1.out _ _ p (by simp) (by omega)).mono ?_; rintro e w4 ⟨rfl, hb4⟩; have HR4 := Lib.hid (Recs.below (HR7.out.alloc (.cells #[.string ⟨p.toArray⟩] 9)) hb4); have K5 := Lib.hid (nextB HB7.out (below_a1 hb4))) | (at_builtin; refine wpList_pushR w4 rfl (.tmp 73) (.tmp 77) 54 rfl w1.heap.size 135 3 40 _ Tryz.underlying54 info_Piece rfl (by decide) (by decide) _ ((markL hd :: accm).map pcR) (pcR (markL p)) _ (by rfl) rfl (one_pcR _) (by rfl) HR4.out (by rfl) (by simp; omega) K5.out.size _ ?_; intro v5 w5 hr5 hg5))
                exact ⟨⟨k + 1, accm ++ [(markL p)], by omega, by rw [List.length_append, List.length_singleton]; omega, by simp, Lib.hid (HST.out (markL p) HM9.out), Lib.hid (by rw [recs_snoc]; exact hr5), Lib.hid (grown_below K5.out hg5 (fun k hk => (HR4.out.lt k hk).1))⟩, by simp [intOf]; omega⟩
              · clear hf
                go_wp2_with (first | (go_at_call 84; refine (CLp.out _).mono ?_; rintro e w7 ⟨rfl, hb7⟩; have HR7 := Lib.hid (HR6.out.below hb7); have HB7 := Lib.hid (nextB HB6.out hb7)) | (go_at_call 163; refine (C1.out _ _ p (by simp) (by omega)).mono ?_; rintro e w4 ⟨rfl, hb4⟩; have HR4 := Lib.hid (Recs.below (HR7.out.alloc (.cells #[.string ⟨p.toArray⟩] 9)) hb4); have K5 := Lib.hid (nextB HB7.out (below_a1 hb4))) | (at_builtin; refine wpList_pushR w4 rfl (.tmp 73) (.tmp 77) 54 rfl w1.heap.size 135 3 40 _ Tryz.underlying54 info_Piece rfl (by decide) (by decide) _ ((markL hd :: accm).map pcR) (pcR (markL p)) _ (by rfl) rfl (one_pcR _) (by rfl) HR4.out (by rfl) (by simp; omega) K5.out.size _ ?_; intro v5 w5 hr5 hg5))
                exact ⟨⟨k + 1, accm ++ [(markL p)], by omega, by rw [List.length_append, List.length_singleton]; omega, by simp, Lib.hid (HST.out (markL p) HM9.out), Lib.hid (by rw [recs_snoc]; exact hr5), Lib.hid (grown_below K5.out hg5 (fun k hk => (HR4.out.lt k hk).1))⟩, by simp [intOf]; omega⟩
          · have HM9 := Lib.hid (HTX.out hf)
            have CTp := Lib.hid (fun w => CT.out w f p)
            clear hf
            go_wp2_with (first | (go_at_call 165; refine (CTp.out _).mono ?_; rintro e w4 ⟨rfl, hb4⟩; have HR4 := Lib.hid (HR6.out.below hb4); have K5 := Lib.hid (nextB HB6.out hb4)) | (at_builtin; refine wpList_pushR w4 rfl (.tmp 64) (.tmp 68) 54 rfl w1.heap.size 135 3 40 _ Tryz.underlying54 info_Piece rfl (by decide) (by decide) _ ((markL hd :: accm).map pcR) (pcR ⟨false, f, p⟩) _ (by rfl) rfl (one_pcR _) (by rfl) HR4.out (by rfl) (by simp; omega) K5.out.size _ ?_; intro v5 w5 hr5 hg5))
            exact ⟨⟨k + 1, accm ++ [⟨false, f, p⟩], by omega, by rw [List.length_append, List.length_singleton]; omega, by simp, Lib.hid (HST.out ⟨false, f, p⟩ HM9.out), Lib.hid (by rw [recs_snoc]; exact hr5), Lib.hid (grown_below K5.out hg5 (fun k hk => (HR4.out.lt k hk).1))⟩, by simp [intOf]; omega⟩
      · have q1 : ¬ (k : Int) < (ps.length : Int) := by omega
        have HZ := Lib.hid (show o = some (markL hd :: acc) by rw [HO.out, HE.out.done (by omega)]; rfl)
        go_wp2
        go_ret2
        rw [HZ.out]
        exact ⟨_, rfl, told_recs HRR.out (by simp), nextB K1.out HB.out⟩
end Go.Proofs.YtndpcphmndfajaaGreatDoor
