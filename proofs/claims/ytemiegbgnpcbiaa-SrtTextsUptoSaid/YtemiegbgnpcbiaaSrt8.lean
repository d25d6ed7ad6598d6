/- The walk of the statement SrtCounts. -/
import Derived.Test.YtemiegbgnpcbiaaSrt6
namespace Go.Proofs.Ytemiegbgnpcbiaa
open Go.RowKit
set_option linter.unusedVariables false

def tmB (p : Pc) : Bool := p.m && timesL p.t
def tm (L : List Pc) : Nat := L.countP tmB
theorem tm_append (a b : List Pc) : tm (a ++ b) = tm a + tm b := by simp [tm]
theorem tm_one (p : Pc) : tm [p] = if tmB p then 1 else 0 := by simp [tm, List.countP_cons]
theorem like_el (s f : List UInt8) (h : likeL s f = true) (j : Nat) (h1 : j < s.length) (h2 : j < f.length) : likeB s[j] f[j] = true := by
  unfold likeL at h
  rw [Bool.and_eq_true] at h
  have hm : (s[j], f[j]) ∈ s.zip f := by
    have : (s.zip f)[j]'(by simp; omega) = (s[j], f[j]) := List.getElem_zip
    rw [← this]
    exact List.getElem_mem _
  have := List.all_eq_true.1 h.2 _ hm
  simpa using this
theorem digits_untimed (s : List UInt8) (h : digitsL s = true) : timesL s = false := by
  rcases hT : timesL s with _ | _
  · rfl
  exfalso
  unfold timesL at hT
  rw [Bool.and_eq_true, Bool.and_eq_true] at hT
  have hl : 29 ≤ s.length := of_decide_eq_true hT.1.1
  have h2 := like_el _ _ hT.1.2 2 (by rw [List.length_take]; omega) (by decide)
  have h3 : (s.take 29)[2]'(by rw [List.length_take]; omega) = s[2]'(by omega) := List.getElem_take
  have h4 : formL[2]'(by decide) = 58 := by decide
  rw [h3, h4] at h2
  have h5 : s[2]'(by omega) = 58 := by simpa [likeB] using h2
  unfold digitsL at h
  rw [Bool.and_eq_true] at h
  have h6 := List.all_eq_true.1 h.1 _ (List.getElem_mem (show 2 < s.length by omega))
  rw [h5] at h6
  revert h6
  decide
theorem short_untimed (s : List UInt8) (h : s.length ≤ 2) : timesL s = false := times_short s (by omega)
theorem endOf_two_le (l : List UInt8) : (endOf l).length ≤ 2 := by unfold endOf; split <;> simp
theorem lines_ends : ∀ (f : Nat) (l : List UInt8) (a : Nat), l.length ≤ f → ∀ x ∈ linesOf l a, x.e.length ≤ 2
  | 0, l, a, h, x, hx => by
    obtain rfl : l = [] := List.eq_nil_of_length_eq_zero (by omega)
    rw [linesOf_nil] at hx
    cases hx
  | f + 1, l, a, h, x, hx => by
    by_cases hl : l = []
    · subst hl
      rw [linesOf_nil] at hx
      cases hx
    · have hp := line_pos l hl
      have h2 : 0 < l.length := List.length_pos_iff.2 hl
      rw [linesOf_cons l a hl] at hx
      rcases List.mem_cons.1 hx with rfl | hx
      · exact endOf_two_le _
      · exact lines_ends f _ _ (by rw [List.length_drop]; omega) x hx
theorem tm_end (e : List UInt8) (h : e.length ≤ 2) : tm (endP e) = 0 := by
  unfold endP
  split
  · rfl
  · rw [tm_one]; simp [tmB, markL, short_untimed e h]
theorem step_tm (st cnt : Nat) (s : List UInt8) (r : Nat × Nat × List Pc) (h : stepS st cnt s = some r) (x : Nat) (hx : x + (if st = 1 then 1 else 0) = cnt) : x + tm r.2.2 + (if r.1 = 1 then 1 else 0) = r.2.1 := by
  unfold stepS at h
  split at h
  · rename_i h1
    split at h
    · rename_i h2
      cases h
      rw [if_pos h1] at hx
      simp only [tm_one, tmB, markL, h2, Bool.true_and, if_true]
      simpa using hx
    · cases h
  · rename_i h1
    rw [if_neg h1] at hx
    split at h
    · cases h
      simp [tm]
      omega
    · split at h
      · cases h
        simp [tm_one, tmB, sayP]
        omega
      · split at h
        · rename_i h4
          cases h
          simp [tm_one, tmB, markL, digits_untimed s h4]
          omega
        · cases h
theorem walk_tm : ∀ (L : List Ln) (st cnt : Nat) (acc : List Pc) (st' cnt' : Nat) (acc' : List Pc), (∀ x ∈ L, x.e.length ≤ 2) → tm acc + (if st = 1 then 1 else 0) = cnt → walkS L st cnt acc = .ok (st', cnt', acc') → tm acc' + (if st' = 1 then 1 else 0) = cnt'
  | [], st, cnt, acc, st', cnt', acc', he, hx, h => by
    rw [walkS] at h
    injection h with h
    cases h
    exact hx
  | x :: r, st, cnt, acc, st', cnt', acc', he, hx, h => by
    rw [walkS] at h
    rcases hS : stepS st cnt x.t with _ | ⟨s1, c1, ps⟩
    · rw [hS] at h; cases h
    · rw [hS] at h
      have h1 := step_tm st cnt x.t _ hS (tm acc) hx
      refine walk_tm r s1 c1 _ _ _ _ (fun y hy => he y (List.mem_cons_of_mem _ hy)) ?_ h
      rw [tm_append, tm_append, tm_end _ (he x List.mem_cons_self)]
      simpa using h1
theorem read_tm (t : List UInt8) (cnt : Nat) (acc : List Pc) (h : readS t = .ok (cnt, acc)) : tm acc = cnt := by
  unfold readS at h
  split at h
  · cases h
  · rename_i st c a hw
    split at h
    · cases h
    · rename_i h1
      injection h with h
      cases h
      have := walk_tm _ _ _ _ _ _ _ (lines_ends t.length t 0 (Nat.le_refl _)) (by rfl) hw
      rw [if_neg h1] at this
      exact this
theorem tm_take (L : List Pc) (k : Nat) (h : k < L.length) : tm (L.take (k + 1)) = tm (L.take k) + if tmB L[k] then 1 else 0 := by
  rw [List.take_succ_eq_append_getElem h, tm_append, tm_one]

set_option maxRecDepth 100000 in
theorem scounts_over (t : List UInt8) (w : World) (h1 : (2000 : Int) < t.length) :
    Calls Try.prog 7 #[.string ⟨t.toArray⟩] w fun e w' => e = .returned (.bool true) ∧ Below w.heap.size w w' := by
  go_enter Try.func7, Try.ntmps7
  go_wp2_with (go_at_call 22; refine (awake24' _).mono ?_; rintro e w1 ⟨rfl, hb1⟩)
  go_ret
  exact ⟨rfl, hb1⟩

set_option maxHeartbeats 2000000 in
set_option maxRecDepth 100000 in
theorem scounts_err (t : List UInt8) (w : World) (ht : ¬ (2000 : Int) < t.length) (a : Nat) (hr : readS t = .error a) :
    Calls Try.prog 7 #[.string ⟨t.toArray⟩] w fun e w' => e = .returned (.bool true) ∧ Below w.heap.size w w' := by
  have hq := fun w => rparse_any t w (by omega)
  have hc := fun w => scount_any t w (by omega)
  unfold RParseSays at hq
  unfold countS at hc
  rw [hr] at hq hc
  simp only at hq hc
  have HQ := Lib.hid hq
  have HC := Lib.hid hc
  have ha0 : (0 : Int) ≤ a := by omega
  clear hq hc hr
  go_enter Try.func7, Try.ntmps7
  go_wp2_with (go_at_call 24; refine (HQ.out _).mono ?_; rintro e w1 ⟨rfl, hb1⟩)
  refine wp_loop_rounds 1 ?_
  rw [rounds_succ]
  go_wp2_with (first | (go_at_call 22; refine (awake24' _).mono ?_; rintro e w2 ⟨rfl, hb2⟩) | (go_at_call 28; refine (HC.out _).mono ?_; rintro e w3 ⟨rfl, hb3⟩))
  go_ret
  exact ⟨rfl, nextB (nextB hb1 hb2) hb3⟩

set_option maxHeartbeats 4000000 in
set_option maxRecDepth 100000 in
theorem scounts_ok (t : List UInt8) (w : World) (ht : ¬ (2000 : Int) < t.length) (cnt : Nat) (acc : List Pc) (hr : readS t = .ok (cnt, acc)) :
    Calls Try.prog 7 #[.string ⟨t.toArray⟩] w fun e w' => e = .returned (.bool true) ∧ Below w.heap.size w w' := by
  have hq := fun w => rparse_any t w (by omega)
  have hc := fun w => scount_any t w (by omega)
  have hn := read_count t cnt acc hr
  have htx := read_text t cnt acc hr
  have htm := read_tm t cnt acc hr
  have hpl : ∀ p ∈ acc, p.t.length ≤ 2000 := by
    intro p hp
    have h1 : p.t.length ≤ (pcsT acc).length := by
      unfold pcsT
      exact List.Sublist.length_le (List.sublist_flatten_of_mem (List.mem_map.2 ⟨p, hp, rfl⟩))
    rw [htx] at h1
    omega
  unfold RParseSays at hq
  unfold countS at hc
  rw [hr] at hq hc
  simp only at hq hc
  have HQ := Lib.hid hq
  have HC := Lib.hid hc
  have HPL := Lib.hid hpl
  have HTM := Lib.hid htm
  clear hq hc hr htx hpl htm
  go_enter Try.func7, Try.ntmps7
  go_wp2_with (go_at_call 24; refine (HQ.out _).mono ?_; rintro e w1 ⟨v1, rfl, hr1, hb1⟩; obtain ⟨a1, cap1, rfl, hcap1, hp1⟩ := pcs_at hr1; have HP := Lib.hid hp1; have HB1 := Lib.hid hb1; clear hr1 hp1 hb1)
  go_loopw [5, 19] (fun z i wr => ∃ (k : Nat), k ≤ acc.length ∧ i = .int .i64 k ∧ z = .int .i64 (tm (acc.take k) : Nat) ∧ tm (acc.take k) ≤ k ∧ Hid (Below w1.heap.size w1 wr)) (fun _ i _ => acc.length - (intOf i).toNat)
  case atStart => exact ⟨0, by omega, rfl, rfl, by simp [tm], Lib.hid (Below.refl _ _)⟩
  case round =>
    obtain ⟨k, hk, rfl, rfl, htk, HB⟩ := hrel
    by_cases hlt : k < acc.length
    · have h0 : (k : Int) < acc.length := by omega
      obtain ⟨b, o, rfl, hb, hcl⟩ := (HP.out.below HB.out).at (by omega)
      obtain ⟨c0, c1, c2⟩ := hcl k hlt
      have hpk := HPL.out _ (List.getElem_mem hlt)
      have HTT := Lib.hid (tm_take acc k hlt)
      unfold tmB at HTT
      have CT := Lib.hid (fun w => rtimes_any acc[k].t w (by omega))
      unfold TimesSays at CT
      have HBX := Lib.hid (HB.out.alloc HB.out.size (.cells #[.bool acc[k].m, .string ⟨acc[k].n.toArray⟩, .string ⟨acc[k].t.toArray⟩] 50))
      clear hcl
      generalize acc[k].n = pn at *
      rcases hM : acc[k].m with _ | _
      · rw [hM] at HTT c0 HBX
        simp only [Bool.false_and, Bool.false_eq_true, if_false, Nat.add_zero] at HTT
        generalize acc[k].t = pt at *
        clear hM
        go_wp2
        exact ⟨⟨k + 1, by omega, by simp, by rw [HTT.out], by rw [HTT.out]; omega, HBX⟩, by simp [intOf]; omega⟩
      · rw [hM] at HTT c0 HBX
        simp only [Bool.true_and] at HTT
        rcases hT : timesL acc[k].t with _ | _
        · rw [hT] at HTT CT
          simp only [Bool.false_eq_true, if_false, Nat.add_zero] at HTT
          clear hT hM
          generalize acc[k].t = pt at *
          go_wp2_with (go_at_call 27; refine (CT.out _).mono ?_; rintro e w2 ⟨rfl, hb2⟩)
          exact ⟨⟨k + 1, by omega, by simp, by rw [HTT.out], by rw [HTT.out]; omega, Lib.hid (HBX.out.trans (hb2.mono HBX.out.size))⟩, by simp [intOf]; omega⟩
        · rw [hT] at HTT CT
          simp only [if_true] at HTT
          clear hT hM
          generalize acc[k].t = pt at *
          go_wp2_with (go_at_call 27; refine (CT.out _).mono ?_; rintro e w2 ⟨rfl, hb2⟩)
          exact ⟨⟨k + 1, by omega, by simp, by rw [HTT.out]; simp, by rw [HTT.out]; omega, Lib.hid (HBX.out.trans (hb2.mono HBX.out.size))⟩, by simp [intOf]; omega⟩
    · have h0 : ¬ (k : Int) < acc.length := by omega
      have e0 : acc.take k = acc := List.take_of_length_le (by omega)
      rw [e0, HTM.out]
      go_wp2_with (first | (go_at_call 22; refine (awake24' _).mono ?_; rintro e w2 ⟨rfl, hb2⟩) | (go_at_call 28; refine (HC.out _).mono ?_; rintro e w3 ⟨rfl, hb3⟩))
      go_ret
      exact ⟨rfl, nextB (nextB (HB1.out.trans (HB.out.mono HB1.out.size)) hb2) hb3⟩

theorem walk_SrtCounts (t : List UInt8) (ht : t.length ≤ maxLen) (w : World) :
    Calls Try.prog 7 #[.string ⟨t.toArray⟩] w fun e w' => e = .returned (.bool true) ∧ Below w.heap.size w w' := by
  by_cases h1 : (2000 : Int) < t.length
  · exact scounts_over t w h1
  rcases hr : readS t with a | ⟨cnt, acc⟩
  · exact scounts_err t w h1 a hr
  · exact scounts_ok t w h1 cnt acc hr
end Go.Proofs.Ytemiegbgnpcbiaa
