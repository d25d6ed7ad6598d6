/- Lines (line): Walk with a method's value. -/
import Derived.Test.YtndpcphmndfajaaGreatDoorZWk

namespace Go.Proofs.YtndpcphmndfajaaGreatDoor
open Go.RowKit
set_option linter.unusedVariables false

/-- a function value that tells lines' pieces by 'step', and keeps its state by 'I', in blocks of 'S' -/
structure TellerF {σ : Type} (F : Nat) (pv : Value) (M : Nat) (I : σ → World → Prop) (S : Nat → Prop) (step : σ → List UInt8 → Option (σ × List Pc)) : Prop where
  enters : ∀ args w, (callFunc F args).run Tryz.prog w = .ok (.enter F args) w
  call : ∀ st s w, I st w → s.length ≤ M → Calls Tryz.prog F #[pv, .string ⟨s.toArray⟩] w fun e w' =>
    (step st s = none ∧ e = .returned (.tuple #[.slice none 0 0, .bool false]) ∧ Away S w w') ∨
    (∃ st' ps v, step st s = some (st', ps) ∧ e = .returned (.tuple #[v, .bool true]) ∧ ToldG w' v ps ∧ I st' w' ∧ Away S w w')
  below : ∀ st w w', I st w → Below w.heap.size w w' → I st w'
  grown : ∀ st w w' row, I st w → w.grownBy w' row → (∀ b, row = some b → ∃ C fr, w.heap[b]? = some (.cells C 135 fr)) → I st w'
  few : ∀ st s st' ps, step st s = some (st', ps) → ps.length ≤ 4 * s.length
theorem TellerF.alloc {σ : Type} {F : Nat} {pv : Value} {M : Nat} {I : σ → World → Prop} {S : Nat → Prop} {step : σ → List UInt8 → Option (σ × List Pc)} (T : TellerF F pv M I S step) {st : σ} {w : World} (h : I st w) (o : Obj) : I st (w.alloc o) :=
  T.below _ _ _ h ((Below.refl _ _).alloc (Nat.le_refl _) o)

set_option maxHeartbeats 4000000 in
set_option maxRecDepth 100000 in
theorem walkF_any {σ : Type} {F : Nat} {pv : Value} {M : Nat} {I : σ → World → Prop} {S : Nat → Prop} {step : σ → List UInt8 → Option (σ × List Pc)} (T : TellerF F pv M I S step) (st0 : σ) (t : List UInt8) (w : World)
    (h : I st0 w) (hS : ∀ k, S k → k < w.heap.size) (ht : t.length ≤ M) (hM : M ≤ 1000000) :
    Calls Tryz.prog 205 #[.string ⟨t.toArray⟩, .func (.func F) #[pv] #[]] w (WalkGSays S step st0 t w) := by
  have H0 := Lib.hid h
  have TT := Lib.hid T
  have eF := T.enters
  have HSS := Lib.hid hS
  clear h T
  generalize hR : w.heap.size = R at *
  have hSR : ∀ b, R ≤ b → ¬ S b := fun b hb hs => by have := hS b hs; omega
  have HSR := Lib.hid hSR
  clear hSR hS
  go_enter Tryz.func205, Tryz.ntmps205
  go_wp2
  go_loopw [6, 7] (fun v i wr => ∃ (k : Nat) (st : σ) (acc : List Pc), k ≤ t.length ∧ acc.length ≤ 5 * k ∧ i = .int .i64 k ∧ Hid (walkG step (linesOf (t.drop k) k) st acc = walkG step (linesOf t 0) st0 []) ∧
    Hid (Recs wr (R + 1) 135 3 v (acc.map pcR)) ∧ Hid (I st wr) ∧ Hid (Away S w wr) ∧ Hid (wr.heap[R]? = some (.cells #[.int .i64 0, .int .i64 0] 26 (0, 0)))) (fun _ i _ => t.length - (intOf i).toNat)
  case atStart =>
    refine ⟨0, st0, [], by omega, by simp, rfl, Lib.hid rfl, Lib.hid (Recs.nil _ _ _ _), Lib.hid (TT.out.alloc H0.out _), Lib.hid (Away.alloc _ _), Lib.hid ?_⟩
    rw [← hR]
    exact at_a0 _ _ _
  case round =>
    obtain ⟨k, st, acc, hk, hacc, rfl, HA, HR, HX, HT, HF⟩ := hrel
    have hRlt : R < wr.heap.size := (Array.getElem?_eq_some_iff.1 HF.out).1
    by_cases hlt2 : k < t.length
    · have h0 : (k : Int) < t.length := by omega
      have HN := Lib.hid (fun w => next_any t k w hk (by omega))
      have hne2 : t.drop k ≠ [] := by intro e; have := congrArg List.length e; rw [List.length_drop] at this; simp at this; omega
      have hcons := linesOf_cons (t.drop k) k hne2
      have hpos := line_pos (t.drop k) hne2
      have hl1 : (lineAt (t.drop k)).length + (endOf ((t.drop k).drop (lineAt (t.drop k)).length)).length ≤ (t.drop k).length := by
        have e1 := congrArg List.length (lineAt_pre (t.drop k))
        have e2 := (endOf_len ((t.drop k).drop (lineAt (t.drop k)).length)).1
        rw [List.length_append] at e1
        omega
      rw [List.length_drop] at hl1
      rw [List.drop_drop, List.drop_drop] at hcons
      rw [List.drop_drop] at hpos hl1
      have hA := HA.out
      rw [hcons, walkG] at hA
      simp only at hA
      clear hcons hne2 HA
      generalize lineAt (t.drop k) = a at *
      generalize endOf (t.drop (k + a.length)) = b at *
      have HP := Lib.hid (fun w h => TT.out.call st a w h (by omega))
      have hbox : ∀ w1 : World, Below wr.heap.size wr w1 → ∀ w2 : World, Away S (w1.alloc (.cells #[.string ⟨a.toArray⟩, .string ⟨b.toArray⟩, .int .i64 k] 234)) w2 →
          w2.heap[w1.heap.size]? = some (.cells #[.string ⟨a.toArray⟩, .string ⟨b.toArray⟩, .int .i64 k] 234 (0, 0)) ∧ w2.heap[R]? = some (.cells #[.int .i64 0, .int .i64 0] 26 (0, 0)) ∧ Recs w2 (R + 1) 135 3 u6 (acc.map pcR) ∧ Away S w w2 ∧ w1.heap.size < w2.heap.size ∧ R < w1.heap.size := by
        intro w1 hb1 w2 h2
        have hs := hb1.size
        refine ⟨block_away (at_a0 _ _ _) h2 (HSR.out _ (by omega)), block_away ((heap_alloc_old w1 _ (by omega)).trans (block_below HF.out hb1)) h2 (HSR.out _ (by omega)), ?_, ((HT.out.trans (Away.of_below hb1)).trans (Away.alloc _ _)).trans h2, ?_, by omega⟩
        · exact ((HR.out.below hb1).alloc _).away h2 (fun q hq => by have := HSS.out q hq; omega)
        · have := h2.size
          simp at this
          omega
      have HBOX := Lib.hid hbox
      clear hbox
      rcases hS : step st a with _ | ⟨st', ps⟩
      · rw [hS] at hA
        simp only at hA
        have HA := Lib.hid hA
        have HP2 : Hid (∀ w, I st w → Calls Tryz.prog F #[pv, .string ⟨a.toArray⟩] w fun e w' => e = .returned (.tuple #[.slice none 0 0, .bool false]) ∧ Away S w w') := Lib.hid fun w h => (HP.out w h).mono fun e w' hh => by
          rcases hh with ⟨_, h1, h2⟩ | ⟨_, _, _, h1, _⟩
          · exact ⟨h1, h2⟩
          · rw [hS] at h1; cases h1
        clear hA hS HP
        go_wp2_with (first | (go_at_call 260; refine (HN.out _).mono ?_; rintro e w1 ⟨rfl, hb1⟩; have HX1 := Lib.hid (TT.out.alloc (TT.out.below _ _ _ HX.out hb1) (.cells #[.string ⟨a.toArray⟩, .string ⟨b.toArray⟩, .int .i64 k] 234))) | (go_at_fn F; refine (HP2.out _ HX1.out).mono ?_; rintro e w2 ⟨rfl, h2⟩; obtain ⟨q1, hf2, q3, q4, q5, q6⟩ := HBOX.out _ hb1 _ h2; have c0 := cell_at (j := 0) hf2; have c1 := cell_at (j := 1) hf2; have f0 := free_at (j := 0) hf2; have f1 := free_at (j := 1) hf2; simp only [List.getElem?_toArray, List.getElem?_cons_zero, List.getElem?_cons_succ] at c0 c1))
        refine end_tmp_cell rfl rfl rfl (store2 hf2 rfl) Tryz.underlying26 rfl (by kernel_rfl) ?_
        unfold WalkGSays
        rw [← HA.out]
        exact ⟨rfl, (q4.setNew (by omega) _).setNew (by omega) _⟩
      · rw [hS] at hA
        simp only at hA
        have hfew := TT.out.few _ _ _ _ hS
        have HA := Lib.hid hA
        have CM := Lib.hid (fun w g hg => mark_one b w g hg (by omega))
        have HP2 : Hid (∀ w, I st w → Calls Tryz.prog F #[pv, .string ⟨a.toArray⟩] w fun e w' => ∃ v, e = .returned (.tuple #[v, .bool true]) ∧ ToldG w' v ps ∧ I st' w' ∧ Away S w w') := Lib.hid fun w h => (HP.out w h).mono fun e w' hh => by
          rcases hh with ⟨h1, _⟩ | ⟨st2, ps2, v, h1, h2⟩
          · rw [hS] at h1; cases h1
          · rw [hS] at h1; cases h1; exact ⟨v, h2⟩
        clear hA hS HP
        rcases List.eq_nil_or_concat ps with rfl | ⟨_, _, hcat⟩
        · go_upto_region 8 with (first | (go_at_call 260; refine (HN.out _).mono ?_; rintro e w1 ⟨rfl, hb1⟩; have HX1 := Lib.hid (TT.out.alloc (TT.out.below _ _ _ HX.out hb1) (.cells #[.string ⟨a.toArray⟩, .string ⟨b.toArray⟩, .int .i64 k] 234))) | (go_at_fn F; refine (HP2.out _ HX1.out).mono ?_; rintro e w2 ⟨v2, rfl, ht2, hx2, h2⟩; obtain rfl : v2 = .slice none 0 0 := (by rcases ht2 with ⟨_, h⟩ | ⟨_, _, _, h, _⟩; exact h; exact absurd h (by decide)); obtain ⟨q1, q2, q3, q4, q5, q6⟩ := HBOX.out _ hb1 _ h2; have HM := Lib.hid (show WMidG I S w R w1.heap.size st' acc a b k u6 w2 from ⟨q3, hx2, q4, q2, q1⟩); clear ht2 hx2 h2 q1 q2 q4 hb1))
          generalize w1.heap.size = xb at *
          clear HX1 HBOX HX HT HF HR HN
          have hxw : xb ≠ R := by omega
          go_upto_region 9 with (at_builtin; refine wpList_appendNone w2 rfl (.tmp 29) (.tmp 30) 54 rfl (R + 1) 135 3 40 _ Tryz.underlying54 info_Piece u6 (acc.map pcR) (by rfl) q3 (by rfl) ?_)
          clear q3
          have c0 := cell_at (j := 0) HM.out.2.2.2.2
          have c1 := cell_at (j := 1) HM.out.2.2.2.2
          simp only [List.getElem?_toArray, List.getElem?_cons_zero, List.getElem?_cons_succ] at c0 c1
          have hvb := HM.out.1.lt
          have hvx := HM.out.1.ne HM.out.2.2.2.2 (by decide)
          by_cases hbe : b = []
          · subst hbe
            go_wp2
            exact ⟨⟨k + a.length, st', acc, by omega, by simp at hpos ⊢; omega, by simp, Lib.hid (by have hA := HA.out; simp only [endP, if_true, List.append_nil, List.length_nil, Nat.add_zero] at hA ⊢; exact hA), Lib.hid (by simpa using HM.out.1), Lib.hid HM.out.2.1, Lib.hid HM.out.2.2.1, Lib.hid HM.out.2.2.2.1⟩, by simp [intOf] at hpos ⊢; omega⟩
          · have hbE : b.isEmpty = false := by cases b; exact absurd rfl hbe; rfl
            have hb1' : 1 ≤ b.length := List.length_pos_iff.2 hbe
            have hsz : R < w2.heap.size := (Array.getElem?_eq_some_iff.1 HM.out.2.2.2.1).1
            have hxz : xb < w2.heap.size := (Array.getElem?_eq_some_iff.1 HM.out.2.2.2.2).1
            have hty := HM.out.1.typed
            go_wp2_with (first | (go_at_call 163; refine (CM.out _ _ (by simp)).mono ?_; rintro e w4 ⟨rfl, hb4⟩; have HR4 := Lib.hid (Recs.below (HM.out.1.alloc (.cells #[.string ⟨b.toArray⟩] 9)) hb4); have hs4 := (below_a1 hb4).size) | (at_builtin; refine wpList_pushR w4 rfl (.tmp 35) (.tmp 40) 54 rfl (R + 1) 135 3 40 _ Tryz.underlying54 info_Piece rfl (by decide) (by decide) _ ((acc).map pcR) (pcR (markL b)) _ (by rfl) rfl (one_pcR _) (by rfl) HR4.out (by rfl) (by simp; omega) (by omega) _ ?_; intro v5 w5 hr5 hg5; have hx5 := block_grown (block_below HM.out.2.2.2.2 (below_a1 hb4)) hg5 (fun e => hvx _ e rfl); have d0 := cell_at (j := 0) hx5; have d1 := cell_at (j := 1) hx5; simp only [List.getElem?_toArray, List.getElem?_cons_zero, List.getElem?_cons_succ] at d0 d1))
            exact ⟨⟨k + (a.length + b.length), st', acc ++ [markL b], by omega, by simp; omega, by simp, Lib.hid (by have hA := HA.out; rw [endP, if_neg hbe] at hA; rw [← Nat.add_assoc] at hA ⊢; simpa using hA), Lib.hid (by rw [List.map_append]; exact hr5), Lib.hid (TT.out.grown _ _ _ _ (TT.out.below _ _ _ HM.out.2.1 (below_a1 hb4)) hg5 (HR4.out.typed)), Lib.hid ((HM.out.2.2.1.trans (Away.of_below (below_a1 hb4))).grown hg5 (fun j e => by have h9 := hvb j e; omega)), Lib.hid (block_grown (block_below HM.out.2.2.2.1 (below_a1 hb4)) hg5 (fun e => by have h9 := hvb _ e; omega))⟩, by simp [intOf]; omega⟩
        · have hpp : 0 < ps.length := by rw [hcat]; simp
          have hap : 0 < a.length := by omega
          clear hcat
          have hvr := HR.out.lt
          have hal : (acc.map pcR).length + (ps.map pcR).length ≤ 1000000000 := by rw [List.length_map, List.length_map]; omega
          go_upto_region 9 with (first | (go_at_call 260; refine (HN.out _).mono ?_; rintro e w1 ⟨rfl, hb1⟩; have HX1 := Lib.hid (TT.out.alloc (TT.out.below _ _ _ HX.out hb1) (.cells #[.string ⟨a.toArray⟩, .string ⟨b.toArray⟩, .int .i64 k] 234))) | (at_builtin; refine wpList_pushMany w2 rfl (.tmp 29) (.tmp 30) 54 rfl (R + 1) 135 3 40 _ Tryz.underlying54 info_Piece rfl (by decide) (by decide) u6 (acc.map pcR) (ps.map pcR) g2 gc2 (by intro r hr; obtain ⟨p, _, rfl⟩ := List.mem_map.1 hr; rfl) (by intro r hr; obtain ⟨p, _, rfl⟩ := List.mem_map.1 hr; exact one_pcR p) (by rfl) q3 (by rw [List.length_map]; rfl) hcells (by rw [List.length_map]; exact hpp) hal (by omega) ?_; intro v3 w3 hr3 hg3; have HM := Lib.hid (show WMidG I S w R w1.heap.size st' (acc ++ ps) a b k v3 w3 from ⟨by rw [List.map_append]; exact hr3, TT.out.grown _ _ _ _ hx2 hg3 q3.typed, q4.grown hg3 (fun j e => by have h9 := hvr j e; omega), block_grown q2 hg3 (fun e => by have h9 := hvr _ e; omega), block_grown q1 hg3 (fun e => by have h9 := hvr _ e; omega)⟩)) | (go_at_fn F; refine (HP2.out _ HX1.out).mono ?_; rintro e w2 ⟨v2, rfl, ht2, hx2, h2⟩; obtain ⟨g2, gc2, rfl, hcells⟩ : ∃ g c, v2 = .slice (some ⟨g, 0, none⟩) ps.length c ∧ ∀ j u, ((ps.map pcR).flatten)[j]? = some u → w2.cell? ⟨g, j, none⟩ = some u := (by rcases ht2 with ⟨h, _⟩ | ⟨g, c, h, _, h3⟩; exact absurd hpp (by rw [h]; decide); exact ⟨g, c, h, h3⟩); obtain ⟨q1, q2, q3, q4, q5, q6⟩ := HBOX.out _ hb1 _ h2; have hs1' := hb1.size))
          clear HX1 HBOX HX HT HF HR HN ht2 hx2 h2 q1 q2 q3 q4 hb1 hr3 hg3 hcells
          generalize w1.heap.size = xb at *
          have hxw : xb ≠ R := by omega
          have c0 := cell_at (j := 0) HM.out.2.2.2.2
          have c1 := cell_at (j := 1) HM.out.2.2.2.2
          simp only [List.getElem?_toArray, List.getElem?_cons_zero, List.getElem?_cons_succ] at c0 c1
          have hvb := HM.out.1.lt
          have hvx := HM.out.1.ne HM.out.2.2.2.2 (by decide)
          by_cases hbe : b = []
          · subst hbe
            go_wp2
            exact ⟨⟨k + a.length, st', (acc ++ ps), by omega, by simp at hpos ⊢; omega, by simp, Lib.hid (by have hA := HA.out; simp only [endP, if_true, List.append_nil, List.length_nil, Nat.add_zero] at hA ⊢; exact hA), Lib.hid (by simpa using HM.out.1), Lib.hid HM.out.2.1, Lib.hid HM.out.2.2.1, Lib.hid HM.out.2.2.2.1⟩, by simp [intOf] at hpos ⊢; omega⟩
          · have hbE : b.isEmpty = false := by cases b; exact absurd rfl hbe; rfl
            have hb1' : 1 ≤ b.length := List.length_pos_iff.2 hbe
            have hsz : R < w3.heap.size := (Array.getElem?_eq_some_iff.1 HM.out.2.2.2.1).1
            have hxz : xb < w3.heap.size := (Array.getElem?_eq_some_iff.1 HM.out.2.2.2.2).1
            go_wp2_with (first | (go_at_call 163; refine (CM.out _ _ (by simp)).mono ?_; rintro e w4 ⟨rfl, hb4⟩; have HR4 := Lib.hid (Recs.below (HM.out.1.alloc (.cells #[.string ⟨b.toArray⟩] 9)) hb4); have hs4 := (below_a1 hb4).size) | (at_builtin; refine wpList_pushR w4 rfl (.tmp 35) (.tmp 40) 54 rfl (R + 1) 135 3 40 _ Tryz.underlying54 info_Piece rfl (by decide) (by decide) _ (((acc ++ ps)).map pcR) (pcR (markL b)) _ (by rfl) rfl (one_pcR _) (by rfl) HR4.out (by rfl) (by simp; omega) (by omega) _ ?_; intro v5 w5 hr5 hg5; have hx5 := block_grown (block_below HM.out.2.2.2.2 (below_a1 hb4)) hg5 (fun e => hvx _ e rfl); have d0 := cell_at (j := 0) hx5; have d1 := cell_at (j := 1) hx5; simp only [List.getElem?_toArray, List.getElem?_cons_zero, List.getElem?_cons_succ] at d0 d1))
            exact ⟨⟨k + (a.length + b.length), st', (acc ++ ps) ++ [markL b], by omega, by simp; omega, by simp, Lib.hid (by have hA := HA.out; rw [endP, if_neg hbe] at hA; rw [← Nat.add_assoc] at hA ⊢; simpa using hA), Lib.hid (by rw [List.map_append]; exact hr5), Lib.hid (TT.out.grown _ _ _ _ (TT.out.below _ _ _ HM.out.2.1 (below_a1 hb4)) hg5 (HR4.out.typed)), Lib.hid ((HM.out.2.2.1.trans (Away.of_below (below_a1 hb4))).grown hg5 (fun j e => by have h9 := hvb j e; omega)), Lib.hid (block_grown (block_below HM.out.2.2.2.1 (below_a1 hb4)) hg5 (fun e => by have h9 := hvb _ e; omega))⟩, by simp [intOf]; omega⟩
    · have h0 : ¬ (k : Int) < t.length := by omega
      have e1 : t.drop k = [] := List.drop_eq_nil_of_le (by omega)
      have hA := HA.out
      rw [e1, linesOf_nil, walkG] at hA
      have HA2 := Lib.hid hA
      clear hA HA
      have c0 := cell_at (j := 0) HF.out
      have c1 := cell_at (j := 1) HF.out
      have f0 := free_at (j := 0) HF.out
      have f1 := free_at (j := 1) HF.out
      simp only [List.getElem?_toArray, List.getElem?_cons_zero, List.getElem?_cons_succ] at c0 c1
      go_wp2
      refine end_tmp_cell rfl rfl rfl (store2 HF.out rfl) Tryz.underlying26 rfl (by kernel_rfl) ?_
      unfold WalkGSays
      rw [← HA2.out]
      exact ⟨_, rfl, ((HR.out.setOld (Nat.lt_succ_self _)).setOld (Nat.lt_succ_self _)).base (by omega), (HT.out.setNew (by omega) _).setNew (by omega) _⟩
end Go.Proofs.YtndpcphmndfajaaGreatDoor
