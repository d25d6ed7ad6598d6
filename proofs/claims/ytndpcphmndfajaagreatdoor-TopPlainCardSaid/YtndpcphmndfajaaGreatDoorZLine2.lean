/- The walks of layer 22 (line): next, Lines; the document's lines. | The walks of layer 22 (line): the document's lines. -/
import Derived.Test.YtndpcphmndfajaaGreatDoorZLow
import Derived.Test.YtndpcphmndfajaaGreatDoorZOcx
import Derived.Deep.DeepCutAuto
import Derived.Deep.RegionLaw

namespace Go.Proofs.YtndpcphmndfajaaGreatDoor
open Go.RowKit
set_option linter.unusedVariables false

theorem below_box {w : World} (C : Array Value) (T : TypeId) : Below w.heap.size w (w.alloc (.cells C T)).drew := by
  have h := (Below.refl w.heap.size w).alloc (Nat.le_refl _) (.cells C T)
  exact ⟨h.os, h.tape, h.output, h.size, h.block⟩
theorem endOf_one (l : List UInt8) (c : UInt8) (r : List UInt8) (h : l = c :: r) (hc : c ≠ 13 ∨ r.head? ≠ some 10) : endOf l = l.take 1 := by
  subst h
  unfold endOf
  split
  · rename_i heq
    simp only [List.cons.injEq] at heq
    obtain ⟨rfl, rfl⟩ := heq
    simp at hc
  · rename_i heq
    simp only [List.cons.injEq] at heq
    obtain ⟨rfl, rfl⟩ := heq
    rfl
  · rename_i heq
    cases heq
theorem endOf_two (l : List UInt8) (r : List UInt8) (h : l = 13 :: 10 :: r) : endOf l = l.take 2 := by subst h; rfl
theorem inl_no (c : UInt8) (h : c = 10 ∨ c = 13) : inl c = false := by rcases h with rfl | rfl <;> rfl
theorem inl_yes (c : UInt8) (h : c ≠ 10) (h2 : c ≠ 13) : inl c = true := by simp [inl, h, h2]
theorem u8_lit (c : UInt8) (n : Nat) (hn : n < 256) : c = UInt8.ofNat n ↔ (c.toNat : Int) = n := by
  rw [u8_eq, UInt8.toNat_ofNat', Nat.mod_eq_of_lt (by omega)]; omega
theorem next_laid (t : List UInt8) (k e : Nat) (hke : k ≤ e) (hel : e ≤ t.length) (HI : ∀ i (hi : i < t.length), k ≤ i → i < e → inl t[i] = true) (hx : ∀ (hlt : e < t.length), inl t[e] = false) :
    lineAt (t.drop k) = (t.drop k).take (e - k) ∧ k + (lineAt (t.drop k)).length = e := by
  have h := lineAt_drop t k e hke hel HI hx
  refine ⟨h, ?_⟩
  rw [h, List.length_take, List.length_drop]; omega

set_option maxHeartbeats 2000000 in
set_option maxRecDepth 100000 in
theorem next_any (t : List UInt8) (k : Nat) (w : World) (hk : k ≤ t.length) (ht : t.length ≤ 1000000000) :
    Calls Tryz.prog 260 #[.string ⟨t.toArray⟩, .int .i64 k] w fun e w' => e = .returned (.agg #[.string ⟨(lineAt (t.drop k)).toArray⟩, .string ⟨(endOf (t.drop (k + (lineAt (t.drop k)).length))).toArray⟩, .int .i64 k]) ∧ Below w.heap.size w w' := by
  go_enter Tryz.func260, Tryz.ntmps260
  go_wp2
  go_loopw [5] (fun i wr => ∃ (e : Nat), k ≤ e ∧ e ≤ t.length ∧ i = .int .i64 e ∧ Hid (∀ i (hi : i < t.length), k ≤ i → i < e → inl t[i] = true) ∧ wr = w.alloc (.cells #[.string ⟨#[]⟩, .string ⟨#[]⟩, .int .i64 0] 234)) (fun i _ => t.length - (intOf i).toNat)
  case atStart => exact ⟨k, by omega, hk, rfl, Lib.hid (fun i _ h1 h2 => absurd h1 (by omega)), rfl⟩
  case round =>
    obtain ⟨e, hke, hel, rfl, HI, rfl⟩ := hrel
    by_cases hlt : e < t.length
    · have h0 : (e : Int) < t.length := by omega
      have hd : t.drop e = t[e] :: t.drop (e + 1) := List.drop_eq_getElem_cons hlt
      have b1 : (k : Int) ≤ e := by omega
      have b2 : (e : Int) + 1 ≤ t.length := by omega
      have b3 : (e : Int) ≤ t.length := by omega
      rcases hA : ((t[e].toNat : Int) != 10) with _ | _
      · have hB : ((t[e].toNat : Int) == 13) = false := by simp at hA ⊢; omega
        have hc10 : t[e] = 10 := (u8_lit t[e] 10 (by decide)).2 (by simpa using hA)
        obtain ⟨hla, hln⟩ := next_laid t k e hke hel HI.out (fun _ => inl_no _ (.inl hc10))
        have hen := endOf_one _ _ _ hd (.inl (by rw [hc10]; decide))
        have HE := Lib.hid (And.intro hla (And.intro hln hen))
        clear hla hln hen hd hc10
        go_wp2
        go_region
        go_wp2
        refine end_cell rfl rfl rfl (at_a0 _ _ _) Tryz.underlying234 rfl (by kernel_rfl) ⟨?_, below_box _ _⟩
        rw [HE.out.2.1, HE.out.2.2, HE.out.1]
        try simp
      · rcases hB : ((t[e].toNat : Int) != 13) with _ | _
        · have hB2 : ((t[e].toNat : Int) == 13) = true := by simp at hB ⊢; omega
          have hc13 : t[e] = 13 := (u8_lit t[e] 13 (by decide)).2 (by simpa using hB)
          obtain ⟨hla, hln⟩ := next_laid t k e hke hel HI.out (fun _ => inl_no _ (.inr hc13))
          by_cases h2 : e + 1 < t.length
          · have h3 : (e : Int) + 1 < t.length := by omega
            have hd2 : t.drop (e + 1) = t[e + 1] :: t.drop (e + 2) := List.drop_eq_getElem_cons h2
            rcases hC : ((t[e + 1].toNat : Int) == 10) with _ | _
            · have hen := endOf_one _ _ _ hd (.inr (by
                rw [hd2]
                simp only [List.head?_cons, ne_eq, Option.some.injEq]
                intro e9
                rw [e9] at hC
                simp at hC))
              have HE := Lib.hid (And.intro hla (And.intro hln hen))
              clear hla hln hen hd hc13 hd2
              go_wp2
              go_region
              go_wp2
              refine end_cell rfl rfl rfl (at_a0 _ _ _) Tryz.underlying234 rfl (by kernel_rfl) ⟨?_, below_box _ _⟩
              rw [HE.out.2.1, HE.out.2.2, HE.out.1]
              try simp
            · have hen := endOf_two (t.drop e) (t.drop (e + 2)) (by
                rw [hd, hd2, hc13, (u8_lit t[e + 1] 10 (by decide)).2 (by simpa using hC)]; rfl)
              have HE := Lib.hid (And.intro hla (And.intro hln hen))
              have b4 : (e : Int) + 1 + 1 ≤ t.length := by omega
              clear hla hln hen hd hc13 hd2
              go_wp2
              go_region
              go_wp2
              refine end_cell rfl rfl rfl (at_a0 _ _ _) Tryz.underlying234 rfl (by kernel_rfl) ⟨?_, below_box _ _⟩
              rw [HE.out.2.1, HE.out.2.2, HE.out.1, show e + 1 + 1 - e = 2 by omega]
          · have h3 : ¬ (e : Int) + 1 < t.length := by omega
            have hd2 : t.drop (e + 1) = [] := List.drop_eq_nil_of_le (by omega)
            have hen := endOf_one _ _ _ hd (.inr (by rw [hd2]; simp))
            have HE := Lib.hid (And.intro hla (And.intro hln hen))
            clear hla hln hen hd hc13 hd2
            go_wp2
            go_region
            go_wp2
            refine end_cell rfl rfl rfl (at_a0 _ _ _) Tryz.underlying234 rfl (by kernel_rfl) ⟨?_, below_box _ _⟩
            rw [HE.out.2.1, HE.out.2.2, HE.out.1]
            try simp
        · have hiy := inl_yes t[e] (fun h => by rw [h] at hA; simp at hA) (fun h => by rw [h] at hB; simp at hB)
          clear hd
          go_wp2
          refine ⟨⟨e + 1, by omega, by omega, by simp, Lib.hid (fun i hi h1 h3 => ?_), trivial⟩, by simp [intOf]; omega⟩
          by_cases hie : i < e
          · exact HI.out i hi h1 hie
          · obtain rfl : i = e := by omega
            exact hiy
    · have h0 : ¬ (e : Int) < t.length := by omega
      obtain ⟨hla, hln⟩ := next_laid t k e hke hel HI.out (fun h => absurd h (by omega))
      have hen : endOf (t.drop e) = [] := by rw [List.drop_eq_nil_of_le (by omega)]; rfl
      have HE := Lib.hid (And.intro hla (And.intro hln hen))
      have b1 : (k : Int) ≤ e := by omega
      have b3 : (e : Int) ≤ t.length := by omega
      clear hla hln hen
      go_wp2
      go_region
      go_wp2
      refine end_cell rfl rfl rfl (at_a0 _ _ _) Tryz.underlying234 rfl (by kernel_rfl) ⟨?_, below_box _ _⟩
      rw [HE.out.2.1, HE.out.2.2, HE.out.1]
      simp
      rfl

theorem grown_cell {w w' : World} {row : Option Nat} (hg : w.grownBy w' row) (b o : Nat) (hb : b < w.heap.size) (hne : row ≠ some b) : w'.cell? ⟨b, o, none⟩ = w.cell? ⟨b, o, none⟩ := by
  have h := hg.block b hb (by first | exact hne | exact fun e => hne e.symm | exact fun e => hne e)
  simp only [World.cell?, h]
theorem info_Line : (Tryz.prog.info? 234).map (fun i => (i.zero, i.size, i.bytes)) = some (some (.agg #[.string ⟨#[]⟩, .string ⟨#[]⟩, .int .i64 0]), 3, 40) := by kernel_rfl
theorem one_lnR (x : Ln) : ∀ u ∈ lnR x, u.oneCell' = true := by
  intro u hu
  simp only [lnR, List.mem_cons, List.not_mem_nil, or_false] at hu
  rcases hu with rfl | rfl | rfl <;> rfl

set_option maxHeartbeats 2000000 in
set_option maxRecDepth 100000 in
theorem lines_any (t : List UInt8) (w : World) (ht : t.length ≤ 1000000) :
    Calls Tryz.prog 194 #[.string ⟨t.toArray⟩] w fun e w' => ∃ v, e = .returned v ∧ Recs w' w.heap.size 234 3 v ((linesOf t 0).map lnR) ∧ Below w.heap.size w w' := by
  go_enter Tryz.func194, Tryz.ntmps194
  go_wp2
  go_loopw [3, 4] (fun v i wr => ∃ (k : Nat) (acc : List Ln), k ≤ t.length ∧ acc.length ≤ k ∧ i = .int .i64 k ∧ Hid (acc ++ linesOf (t.drop k) k = linesOf t 0) ∧ Hid (Recs wr w.heap.size 234 3 v (acc.map lnR)) ∧ Hid (Below w.heap.size w wr)) (fun _ i _ => t.length - (intOf i).toNat)
  case atStart => exact ⟨0, [], by omega, by simp, rfl, Lib.hid rfl, Lib.hid (Recs.nil _ _ _ _), Lib.hid (Below.refl _ _)⟩
  case round =>
    obtain ⟨k, acc, hk, hak, rfl, HA, HR, HB⟩ := hrel
    by_cases hlt : k < t.length
    · have h0 : (k : Int) < t.length := by omega
      have HN := Lib.hid (fun w => next_any t k w hk (by omega))
      have hne : t.drop k ≠ [] := by intro e; have := congrArg List.length e; rw [List.length_drop] at this; simp at this; omega
      have hcons := linesOf_cons (t.drop k) k hne
      have hpos := line_pos (t.drop k) hne
      have hl1 : (lineAt (t.drop k)).length + (endOf ((t.drop k).drop (lineAt (t.drop k)).length)).length ≤ (t.drop k).length := by
        have e1 := congrArg List.length (lineAt_pre (t.drop k))
        have e2 := (endOf_len ((t.drop k).drop (lineAt (t.drop k)).length)).1
        rw [List.length_append] at e1
        omega
      rw [List.length_drop] at hl1
      rw [List.drop_drop, List.drop_drop] at hcons
      rw [List.drop_drop] at hpos hl1
      rw [hcons] at HA
      clear hcons hne
      generalize lineAt (t.drop k) = a at *
      generalize endOf (t.drop (k + a.length)) = b at *
      go_wp2_with (first | (go_at_call 260; refine (HN.out _).mono ?_; rintro e w1 ⟨rfl, hb1⟩; have HB1 := Lib.hid (nextB HB.out hb1); have HR1 := Lib.hid (HR.out.below hb1); clear hb1; have hs1 := HB1.out.size; have hv := HR1.out.lt) | (at_builtin; refine wpList_pushR _ rfl (.tmp 13) (.tmp 15) 231 rfl w.heap.size 234 3 40 _ Tryz.underlying231 info_Line rfl (by decide) (by decide) _ (acc.map lnR) (lnR ⟨a, b, k⟩) _ rfl rfl (one_lnR _) rfl (HR1.out.alloc _) (by show Value.slice (some ⟨w1.heap.size + 1, 0, none⟩) 1 1 = _; simp) (by simp; omega) (by simp; omega) _ ?_; intro v2 w2 hr2 hg2; have c0 := grown_cell hg2 w1.heap.size 0 (by simp) (fun e => Nat.lt_irrefl _ (hv _ e).2); have c1 := grown_cell hg2 w1.heap.size 1 (by simp) (fun e => Nat.lt_irrefl _ (hv _ e).2); rw [cell_at (at_a0 _ _ _)] at c0 c1; simp only [List.getElem?_toArray, List.getElem?_cons_zero, List.getElem?_cons_succ] at c0 c1))
      refine ⟨⟨k + (a.length + b.length), acc ++ [⟨a, b, k⟩], by omega, by simp; omega, by simp, Lib.hid ?_, Lib.hid ?_, Lib.hid ?_⟩, by simp [intOf]; omega⟩
      · rw [← HA.out, List.append_assoc]
        simp [Nat.add_assoc]
      · rw [List.map_append]; exact hr2
      · exact grown_below (HB1.out.alloc hs1 _) hg2 (fun j e => (hv j e).1)
    · have h0 : ¬ (k : Int) < t.length := by omega
      go_wp2
      go_ret
      have e1 : t.drop k = [] := List.drop_eq_nil_of_le (by omega)
      have h := HA.out
      rw [e1, linesOf_nil, List.append_nil] at h
      subst h
      exact ⟨_, rfl, HR.out, HB.out⟩
end Go.Proofs.YtndpcphmndfajaaGreatDoor

namespace Go.Proofs.YtndpcphmndfajaaGreatDoor
open Go.RowKit
set_option linter.unusedVariables false

theorem ref_step (t : List UInt8) (k i n : Nat) (hki : k ≤ i) (hn : 0 < n) (hi : i + n ≤ t.length) (HI : ∀ j (hj : j < t.length), k ≤ j → j < i → inl t[j] = true) (hx : ∀ (hlt : i < t.length), inl t[i] = false) (he : endOf (t.drop i) = (t.drop i).take n) :
    linesOf (t.drop k) k = ⟨(t.drop k).take (i - k), (t.drop i).take n, k⟩ :: linesOf (t.drop (i + n)) (i + n) := by
  obtain ⟨h1, h2⟩ := next_laid t k i hki (by omega) HI hx
  have hne : t.drop k ≠ [] := by intro e; have := congrArg List.length e; rw [List.length_drop] at this; simp at this; omega
  have hl : ((t.drop i).take n).length = n := by rw [List.length_take, List.length_drop]; omega
  rw [linesOf_cons _ _ hne, List.drop_drop, List.drop_drop, h2, he, hl]
  have e3 : k + ((lineAt (t.drop k)).length + n) = i + n := by omega
  rw [e3, h1]
theorem ref_last (t : List UInt8) (k : Nat) (hk : k < t.length) (HI : ∀ j (hj : j < t.length), k ≤ j → j < t.length → inl t[j] = true) : linesOf (t.drop k) k = [⟨(t.drop k).take (t.length - k), [], k⟩] := by
  obtain ⟨h1, h2⟩ := next_laid t k t.length (by omega) (Nat.le_refl _) HI (fun h => absurd h (by omega))
  have hne : t.drop k ≠ [] := by intro e; have := congrArg List.length e; rw [List.length_drop] at this; simp at this; omega
  rw [linesOf_cons _ _ hne, List.drop_drop, List.drop_drop, h2]
  have e1 : t.drop t.length = [] := List.drop_eq_nil_of_le (Nat.le_refl _)
  have e2 : endOf [] = [] := rfl
  rw [e1, e2]
  have e3 : k + ((lineAt (t.drop k)).length + ([] : List UInt8).length) = t.length := by simp; omega
  rw [e3, e1, linesOf_nil, h1]

end Go.Proofs.YtndpcphmndfajaaGreatDoor
