/- The walks of layer 22 (line): the document's lines. -/
import Derived.Test.YtemiegbgnpcbiaaLine2
import Derived.Deep.RegionLaw
namespace Go.Proofs.Ytemiegbgnpcbiaa
open Go.RowKit
set_option linter.unusedVariables false

theorem info_rLine : (Try.prog.info? 29).map (fun i => (i.zero, i.size, i.bytes)) = some (some (.agg #[.string ⟨#[]⟩, .string ⟨#[]⟩, .int .i64 0]), 3, 40) := by kernel_rfl
theorem ref_step (t : List UInt8) (k i n : Nat) (hki : k ≤ i) (hn : 0 < n) (hi : i + n ≤ t.length) (HI : ∀ j (hj : j < t.length), k ≤ j → j < i → inl t[j] = true) (hx : ∀ (hlt : i < t.length), inl t[i] = false) (he : endOf (t.drop i) = (t.drop i).take n) :
    linesOf (t.drop k) k = ⟨(t.drop k).take (i - k), (t.drop i).take n, k⟩ :: linesOf (t.drop (i + n)) (i + n) := by
  obtain ⟨h1, h2⟩ := next_laid t k i hki (by omega) HI hx
  have hne : t.drop k ≠ [] := by intro e; have := congrArg List.length e; rw [List.length_drop] at this; simp at this; omega
  have hl : ((t.drop i).take n).length = n := by rw [List.length_take, List.length_drop]; omega
  rw [linesOf_cons _ _ hne, List.drop_drop, List.drop_drop, h2, he, hl]
  have e3 : k + ((lineAt (t.drop k)).length + n) = i + n := by omega
  rw [e3, h1]
theorem ref_last (t : List UInt8) (k : Nat) (hk : k < t.length) (HI : ∀ j (hj : j < t.length), k ≤ j → j < t.length → inl t[j] = true) : linesOf (t.drop k) k = [⟨(t.drop k).take (t.length - k), [], k⟩] := by
  obtain ⟨h1, h2⟩ := next_laid t k t.length (by omega) (Nat.le_refl _) HI (fun h => absurd h (by omega))
  have hne : t.drop k ≠ [] := by intro e; have := congrArg List.length e; rw [List.length_drop] at this; simp at this; omega
  rw [linesOf_cons _ _ hne, List.drop_drop, List.drop_drop, h2]
  have e1 : t.drop t.length = [] := List.drop_eq_nil_of_le (Nat.le_refl _)
  have e2 : endOf [] = [] := rfl
  rw [e1, e2]
  have e3 : k + ((lineAt (t.drop k)).length + ([] : List UInt8).length) = t.length := by simp; omega
  rw [e3, e1, linesOf_nil, h1]

def RInv (t : List UInt8) (w : World) (v a i : Value) (wr : World) : Prop :=
  ∃ (k j : Nat) (acc : List Ln), k ≤ j ∧ j ≤ t.length ∧ acc.length ≤ k ∧ a = .int .i64 k ∧ i = .int .i64 j ∧ Hid (acc ++ linesOf (t.drop k) k = linesOf t 0) ∧ Hid (∀ m (hm : m < t.length), k ≤ m → m < j → inl t[m] = true) ∧ Hid (Recs wr w.heap.size 29 3 v (acc.map lnR)) ∧ Hid (Below w.heap.size w wr)

set_option maxHeartbeats 2000000 in
set_option maxRecDepth 100000 in
theorem rlines_any (t : List UInt8) (w : World) (ht : t.length ≤ 2000000) :
    Calls Try.prog 12 #[.string ⟨t.toArray⟩] w fun e w' => ∃ v, e = .returned v ∧ Recs w' w.heap.size 29 3 v ((linesOf t 0).map lnR) ∧ Below w.heap.size w w' := by
  go_enter Try.func12, Try.ntmps12
  go_wp2
  go_loopw [3, 4, 5] (fun v a i wr => ∃ (k j : Nat) (acc : List Ln), k ≤ j ∧ j ≤ t.length ∧ acc.length ≤ k ∧ a = .int .i64 k ∧ i = .int .i64 j ∧ Hid (acc ++ linesOf (t.drop k) k = linesOf t 0) ∧ Hid (∀ m (hm : m < t.length), k ≤ m → m < j → inl t[m] = true) ∧ Hid (Recs wr w.heap.size 29 3 v (acc.map lnR)) ∧ Hid (Below w.heap.size w wr)) (fun _ _ i _ => t.length - (intOf i).toNat)
  case atStart => exact ⟨0, 0, [], by omega, by omega, by simp, rfl, rfl, Lib.hid rfl, Lib.hid (fun m _ h1 h2 => absurd h2 (by omega)), Lib.hid (Recs.nil _ _ _ _), Lib.hid (Below.refl _ _)⟩
  case round =>
    obtain ⟨k, e, acc, hke, hel, hak, rfl, rfl, HA, HI, HR, HB⟩ := hrel
    by_cases hlt : e < t.length
    · have h0 : (e : Int) < t.length := by omega
      have hd : t.drop e = t[e] :: t.drop (e + 1) := List.drop_eq_getElem_cons hlt
      have b0 : (0 : Int) ≤ k := by omega
      have b1 : (k : Int) ≤ e := by omega
      have b2 : (e : Int) ≤ e + 1 := by omega
      have b3 : (e : Int) ≤ t.length := by omega
      have b4 : (e : Int) + 1 ≤ t.length := by omega
      have w1 : IntKind.i64.wrap ((e : Int) + 1) = (e : Int) + 1 := IntWalk.i64_in _ (by omega)
      have w2 : IntKind.i64.wrap ((e : Int) + 2) = (e : Int) + 2 := IntWalk.i64_in _ (by omega)
      have n1 : ((e : Int) + 1).toNat = e + 1 := by omega
      have n2 : ((e : Int) + 2).toNat = e + 2 := by omega
      have hv := HR.out.lt
      have hbs := HB.out.size
      rcases hA : ((t[e].toNat : Int) != 10) with _ | _
      · have hB : ((t[e].toNat : Int) == 13) = false := by simp at hA ⊢; omega
        have hc10 : t[e] = 10 := (u8_lit t[e] 10 (by decide)).2 (by simpa using hA)
        have hen := endOf_one _ _ _ hd (.inl (by rw [hc10]; decide))
        have HS := Lib.hid (ref_step t k e 1 hke (by omega) (by omega) HI.out (fun _ => inl_no _ (.inl hc10)) hen)
        clear hen hd
        go_wp2
        go_region_law (refine step_pushR wr.drew rfl (.tmp 41) (.tmp 54) 25 rfl w.heap.size 29 3 40 _ Try.underlying25 info_rLine rfl (by decide) (by decide) u3 (acc.map lnR) (lnR ⟨(t.drop k).take (e - k), (t.drop e).take 1, k⟩) _ (by rfl) rfl (one_lnR _) (by rfl) HR.out (by rfl) (by simp; omega) hbs _ ?_; intro v2 w3 hr2 hg2)
        go_wp2
        refine ⟨⟨e + 1, e + 1, acc ++ [⟨(t.drop k).take (e - k), (t.drop e).take 1, k⟩], Nat.le_refl _, by omega, by simp; omega, by simp, by simp, Lib.hid ?_, Lib.hid (fun m _ h1 h2 => absurd h2 (by omega)), Lib.hid ?_, Lib.hid ?_⟩, by simp [intOf]; omega⟩
        · rw [← HA.out, HS.out, List.append_assoc]; rfl
        · rw [List.map_append]; exact hr2
        · exact grown_below HB.out (w' := w3) (wr := wr) ⟨hg2.os, hg2.tape, hg2.output, hg2.size, hg2.block⟩ (fun j e => (hv j e).1)
      · rcases hB : ((t[e].toNat : Int) != 13) with _ | _
        · have hB2 : ((t[e].toNat : Int) == 13) = true := by simp at hB ⊢; omega
          have hc13 : t[e] = 13 := (u8_lit t[e] 13 (by decide)).2 (by simpa using hB)
          by_cases h2 : e + 1 < t.length
          · have h3 : (e : Int) + 1 < t.length := by omega
            have b5 : (e : Int) + 2 ≤ t.length := by omega
            have b6 : (e : Int) ≤ e + 2 := by omega
            have hd2 : t.drop (e + 1) = t[e + 1] :: t.drop (e + 2) := List.drop_eq_getElem_cons h2
            rcases hC : ((t[e + 1].toNat : Int) == 10) with _ | _
            · have hen := endOf_one _ _ _ hd (.inr (by
                rw [hd2]
                simp only [List.head?_cons, ne_eq, Option.some.injEq]
                intro e9
                rw [e9] at hC
                simp at hC))
              have HS := Lib.hid (ref_step t k e 1 hke (by omega) (by omega) HI.out (fun _ => inl_no _ (.inr hc13)) hen)
              clear hd2 hc13
              clear hen hd
              go_wp2
              go_region_law (refine step_pushR wr.drew rfl (.tmp 41) (.tmp 54) 25 rfl w.heap.size 29 3 40 _ Try.underlying25 info_rLine rfl (by decide) (by decide) u3 (acc.map lnR) (lnR ⟨(t.drop k).take (e - k), (t.drop e).take 1, k⟩) _ (by rfl) rfl (one_lnR _) (by rfl) HR.out (by rfl) (by simp; omega) hbs _ ?_; intro v2 w3 hr2 hg2)
              go_wp2
              refine ⟨⟨e + 1, e + 1, acc ++ [⟨(t.drop k).take (e - k), (t.drop e).take 1, k⟩], Nat.le_refl _, by omega, by simp; omega, by simp, by simp, Lib.hid ?_, Lib.hid (fun m _ h1 h2 => absurd h2 (by omega)), Lib.hid ?_, Lib.hid ?_⟩, by simp [intOf]; omega⟩
              · rw [← HA.out, HS.out, List.append_assoc]; rfl
              · rw [List.map_append]; exact hr2
              · exact grown_below HB.out (w' := w3) (wr := wr) ⟨hg2.os, hg2.tape, hg2.output, hg2.size, hg2.block⟩ (fun j e => (hv j e).1)
            · have hen := endOf_two (t.drop e) (t.drop (e + 2)) (by
                rw [hd, hd2, hc13, (u8_lit t[e + 1] 10 (by decide)).2 (by simpa using hC)]; rfl)
              have HS := Lib.hid (ref_step t k e 2 hke (by omega) (by omega) HI.out (fun _ => inl_no _ (.inr hc13)) hen)
              clear hd2 hc13
              clear hen hd
              go_wp2
              go_region_law (refine step_pushR wr.drew rfl (.tmp 41) (.tmp 54) 25 rfl w.heap.size 29 3 40 _ Try.underlying25 info_rLine rfl (by decide) (by decide) u3 (acc.map lnR) (lnR ⟨(t.drop k).take (e - k), (t.drop e).take 2, k⟩) _ (by rfl) rfl (one_lnR _) (by rfl) HR.out (by rfl) (by simp; omega) hbs _ ?_; intro v2 w3 hr2 hg2)
              go_wp2
              refine ⟨⟨e + 2, e + 2, acc ++ [⟨(t.drop k).take (e - k), (t.drop e).take 2, k⟩], Nat.le_refl _, by omega, by simp; omega, by simp, by simp, Lib.hid ?_, Lib.hid (fun m _ h1 h2 => absurd h2 (by omega)), Lib.hid ?_, Lib.hid ?_⟩, by simp [intOf]; omega⟩
              · rw [← HA.out, HS.out, List.append_assoc]; rfl
              · rw [List.map_append]; exact hr2
              · exact grown_below HB.out (w' := w3) (wr := wr) ⟨hg2.os, hg2.tape, hg2.output, hg2.size, hg2.block⟩ (fun j e => (hv j e).1)
          · have h3 : ¬ (e : Int) + 1 < t.length := by omega
            have hd2 : t.drop (e + 1) = [] := List.drop_eq_nil_of_le (by omega)
            have hen := endOf_one _ _ _ hd (.inr (by rw [hd2]; simp))
            have HS := Lib.hid (ref_step t k e 1 hke (by omega) (by omega) HI.out (fun _ => inl_no _ (.inr hc13)) hen)
            clear hd2 hc13
            clear hen hd
            go_wp2
            go_region_law (refine step_pushR wr.drew rfl (.tmp 41) (.tmp 54) 25 rfl w.heap.size 29 3 40 _ Try.underlying25 info_rLine rfl (by decide) (by decide) u3 (acc.map lnR) (lnR ⟨(t.drop k).take (e - k), (t.drop e).take 1, k⟩) _ (by rfl) rfl (one_lnR _) (by rfl) HR.out (by rfl) (by simp; omega) hbs _ ?_; intro v2 w3 hr2 hg2)
            go_wp2
            refine ⟨⟨e + 1, e + 1, acc ++ [⟨(t.drop k).take (e - k), (t.drop e).take 1, k⟩], Nat.le_refl _, by omega, by simp; omega, by simp, by simp, Lib.hid ?_, Lib.hid (fun m _ h1 h2 => absurd h2 (by omega)), Lib.hid ?_, Lib.hid ?_⟩, by simp [intOf]; omega⟩
            · rw [← HA.out, HS.out, List.append_assoc]; rfl
            · rw [List.map_append]; exact hr2
            · exact grown_below HB.out (w' := w3) (wr := wr) ⟨hg2.os, hg2.tape, hg2.output, hg2.size, hg2.block⟩ (fun j e => (hv j e).1)
        · have hiy := inl_yes t[e] (fun h => by rw [h] at hA; simp at hA) (fun h => by rw [h] at hB; simp at hB)
          clear hd
          go_wp2
          refine ⟨⟨k, e + 1, acc, by omega, by omega, hak, rfl, by simp, HA, Lib.hid (fun m hm h1 h3 => ?_), HR, HB⟩, by simp [intOf]; omega⟩
          by_cases hie : m < e
          · exact HI.out m hm h1 hie
          · obtain rfl : m = e := by omega
            exact hiy
    · have h0 : ¬ (e : Int) < t.length := by omega
      obtain rfl : e = t.length := by omega
      have hv := HR.out.lt
      have hbs := HB.out.size
      by_cases hk : k < t.length
      · have h1 : (k : Int) < t.length := by omega
        have h2 : (k : Int) ≤ t.length := by omega
        have HS := Lib.hid (ref_last t k hk HI.out)
        go_wp2_with (at_builtin; refine wpList_pushR _ rfl (.tmp 66) (.tmp 72) 25 rfl w.heap.size 29 3 40 _ Try.underlying25 info_rLine rfl (by decide) (by decide) _ (acc.map lnR) (lnR ⟨(t.drop k).take (t.length - k), [], k⟩) _ (by rfl) rfl (one_lnR _) (by rfl) HR.out (by rfl) (by simp; omega) hbs _ ?_; intro v2 w3 hr2 hg2)
        go_ret
        refine ⟨_, rfl, ?_, grown_below HB.out hg2 (fun j e => (hv j e).1)⟩
        rw [← HA.out, HS.out, List.map_append]
        exact hr2
      · have h1 : ¬ (k : Int) < t.length := by omega
        go_wp2
        go_ret
        have e1 : t.drop k = [] := List.drop_eq_nil_of_le (by omega)
        have h := HA.out
        rw [e1, linesOf_nil, List.append_nil] at h
        subst h
        exact ⟨_, rfl, HR.out, HB.out⟩
end Go.Proofs.Ytemiegbgnpcbiaa
