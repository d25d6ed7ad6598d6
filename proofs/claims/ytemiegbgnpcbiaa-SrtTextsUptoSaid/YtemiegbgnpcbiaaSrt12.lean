/- The walk of the statement SrtTexts, texts of at most 1,048,576 bytes. -/
import Derived.Test.YtemiegbgnpcbiaaSrt11
namespace Go.Proofs.Ytemiegbgnpcbiaa
open Go.RowKit
set_option linter.unusedVariables false

theorem made_len (L : List (List UInt8)) (h : ∀ s ∈ L, s.length ≤ 100) : (made L).length ≤ 136 * L.length := by
  induction L with
  | nil => simp [made]
  | cons s L ih =>
    have h1 := h s List.mem_cons_self
    have h2 := ih fun q hq => h q (List.mem_cons_of_mem _ hq)
    have e : made (s :: L) = blk s ++ made L := by simp [made]
    have e2 : (blk s).length = 36 + s.length := by simp [blk, hdrL]; omega
    rw [e, List.length_append, List.length_cons, e2]
    omega
theorem info_str1 : (Try.prog.info? 9).map (fun i => (i.zero, i.size, i.bytes)) = some (some (.string ⟨#[]⟩), 1, 16) := by kernel_rfl
def strR (s : List UInt8) : List Value := [.string ⟨s.toArray⟩]

theorem says_take (L : List Pc) (k : Nat) (h : k < L.length) : says (L.take (k + 1)) = says (L.take k) ++ (if L[k].m = true then [] else [L[k].t]) := by
  rw [List.take_succ_eq_append_getElem h, says_append]
  congr 1
  cases hm : L[k].m <;> simp [says, hm]
theorem strs_at {w : World} {base e : Nat} {v : Value} {ps : List (List UInt8)} (h : Recs w base e 1 v (ps.map strR)) : ∃ a cap, v = .slice a ps.length cap ∧ StrsAt w a ps.length ps := by
  obtain ⟨a, cap, hv, _, hr⟩ := h.at
  rw [List.length_map] at hv hr
  refine ⟨a, cap, hv, rfl, ?_⟩
  rcases hr.2.2 with h0 | ⟨b, off, ha, hb, hc⟩
  · exact .inl h0
  · refine .inr ⟨b, off, ha, hb, fun i hi => ?_⟩
    have := hc i (by simpa using hi) 0 (by decide)
    simp only [Nat.mul_one, Nat.add_zero] at this
    rw [this]
    simp [strR]

set_option maxRecDepth 100000 in
theorem stexts_over (a : Option Addr) (n cap : Nat) (w : World) (h : (20 : Int) < n) :
    Calls Try.prog 9 #[.slice a n cap] w fun e w' => e = .returned (.bool true) ∧ Below w.heap.size w w' := by
  go_enter Try.func9, Try.ntmps9
  go_wp2_with (go_at_call 22; refine (awake24' _).mono ?_; rintro e w1 ⟨rfl, hb1⟩)
  go_ret
  exact ⟨rfl, hb1⟩

set_option maxHeartbeats 6000000 in
set_option maxRecDepth 100000 in
theorem stexts_in (a : Option Addr) (n cap : Nat) (ps : List (List UInt8)) (w : World) (hs : Hid (StrsAt w a n ps)) (hn : n ≤ 20) (hp : Hid (∀ p ∈ ps, p.length ≤ 1048576)) :
    Calls Try.prog 9 #[.slice a n cap] w fun e w' => e = .returned (.bool true) ∧ Below w.heap.size w w' := by
  have hl := hs.out.1
  go_enter Try.func9, Try.ntmps9
  go_wp2
  go_loopw [3, 19] (fun z i wr => ∃ (k : Nat), k ≤ n ∧ i = .int .i64 k ∧ z = .string ⟨(made (ps.take k)).toArray⟩ ∧ Hid (∀ p ∈ ps.take k, Plain1 p ∧ p.length ≤ 100) ∧ Hid (Below w.heap.size w wr)) (fun _ i _ => n - (intOf i).toNat)
  case atStart => exact ⟨0, by omega, rfl, rfl, Lib.hid (by simp), Lib.hid (Below.refl _ _)⟩
  case round =>
    obtain ⟨k, hk, rfl, rfl, HP, HB⟩ := hrel
    have hml := made_len _ (fun p hp => (HP.out p hp).2)
    rw [List.length_take] at hml
    by_cases hlt : k < n
    · have h0 : (k : Int) < n := by omega
      have hkl : k < ps.length := by omega
      rcases hs.out.2 with h | ⟨b, off, rfl, hb, hc⟩
      · omega
      have c0 := hc k hkl
      rw [← HB.out.cell (by exact hb)] at c0
      have hpk := hp.out _ (List.getElem_mem hkl)
      have HMT := Lib.hid (List.take_succ_eq_append_getElem hkl)
      clear hc
      generalize ps[k] = s at *
      have CL := Lib.hid (fun w => rlines_any s w (by omega))
      generalize hL : linesOf s 0 = L at *
      go_upto_region 8 with (go_at_call 12; refine (CL.out _).mono ?_; rintro e w1 ⟨v1, rfl, hr1, hb1⟩; obtain ⟨a1, cap1, rfl, hv1⟩ := lines_at hr1; have HV1 := Lib.hid hv1; have HB1 := Lib.hid (nextB HB.out hb1); clear hr1 hb1 hv1)
      by_cases hbig : (100 : Int) < s.length
      · go_wp2_with (go_at_call 22; refine (awake24' _).mono ?_; rintro e w2 ⟨rfl, hb2⟩)
        go_ret
        exact ⟨rfl, nextB HB1.out hb2⟩
      · by_cases h1 : L.length = 1
        · have t1 : ((L.length : Int) != 1) = false := by simp; omega
          obtain ⟨x, rfl⟩ : ∃ x, L = [x] := by
            cases L with
            | nil => simp at h1
            | cons x r => cases r with
              | nil => exact ⟨x, rfl⟩
              | cons y r => simp at h1
          obtain ⟨b1, o1, rfl, hb1, d0, d1, d2⟩ := lines_cells HV1.out 0 (by simp)
          simp only [List.getElem_cons_zero, Nat.zero_mul, Nat.add_zero] at d0 d1 d2
          by_cases he : x.e = []
          · have hpl := plain_of hL he
            rw [he] at d1
            go_wp2
            refine ⟨⟨k + 1, by omega, by simp, ?_, Lib.hid ?_, HB1⟩, by simp [intOf]; omega⟩
            · rw [HMT.out, made_snoc]
              simp [blk, hdrL]
            · rw [HMT.out]
              intro p hp
              rcases List.mem_append.1 hp with hp | hp
              · exact HP.out p hp
              · obtain rfl : p = s := by simpa using hp
                exact ⟨hpl, by omega⟩
          · have hE : x.e.isEmpty = false := by cases hx : x.e; exact absurd hx he; rfl
            generalize x.e = xe at *
            go_wp2_with (go_at_call 22; refine (awake24' _).mono ?_; rintro e w2 ⟨rfl, hb2⟩)
            go_ret
            exact ⟨rfl, nextB HB1.out hb2⟩
        · have t1 : ((L.length : Int) != 1) = true := by simp; omega
          go_wp2_with (go_at_call 22; refine (awake24' _).mono ?_; rintro e w2 ⟨rfl, hb2⟩)
          go_ret
          exact ⟨rfl, nextB HB1.out hb2⟩
    · have h0 : ¬ (k : Int) < n := by omega
      have e0 : ps.take k = ps := List.take_of_length_le (by omega)
      rw [e0] at HP hml ⊢
      obtain ⟨acc, hrd, hsay⟩ := made_read ps (fun p hp => (HP.out p hp).1)
      have hcn := read_count _ _ _ hrd
      have hpa := fun w => sparse_any (made ps) w (by omega)
      have hco := fun w => scount_any (made ps) w (by omega)
      unfold ParseSays at hpa
      unfold countS at hco
      rw [hrd] at hpa hco
      simp only at hpa hco
      rw [hl] at hco
      have CP := Lib.hid hpa
      have CC := Lib.hid hco
      have HSAY := Lib.hid hsay
      have hacl : acc.length ≤ 10000 := by omega
      clear hpa hco hrd hsay
      generalize made ps = T at *
      go_upto_region 13 with (go_at_call 23; refine (CP.out _).mono ?_; rintro e w1 ⟨v1, rfl, hr1, hb1⟩; obtain ⟨a1, cap1, rfl, hcap1, hp1⟩ := pcs_at hr1)
      have hal : Below w1.heap.size w1 (w1.alloc (.cells #[.int .i64 0, .int .i64 0] 42)) := (Below.refl _ _).alloc (Nat.le_refl _) _
      have HP1 := Lib.hid (hp1.below hal)
      have HF := Lib.hid (at_a0 w1 #[.int .i64 0, .int .i64 0] 42)
      have HBW := Lib.hid (nextB (nextB HB.out hb1) hal)
      generalize w1.alloc (.cells #[.int .i64 0, .int .i64 0] 42) = W at *
      generalize w1.heap.size = xb at *
      clear hr1 hb1 hp1 hal CP
      go_wp2
      go_loopw [9, 54] (fun v i wr1 => ∃ (k : Nat), k ≤ acc.length ∧ i = .int .i64 k ∧ Hid (Recs wr1 W.heap.size 9 1 v ((says (acc.take k)).map strR)) ∧ (says (acc.take k)).length ≤ k ∧ Hid (Below W.heap.size W wr1)) (fun _ i _ => acc.length - (intOf i).toNat)
      case atStart => exact ⟨0, by omega, rfl, Lib.hid (Recs.nil _ _ _ _), by simp [says], Lib.hid (Below.refl _ _)⟩
      case round =>
        obtain ⟨j, hj, rfl, HG, hgl, HB2⟩ := hrel
        by_cases hjl : j < acc.length
        · have h5 : (j : Int) < acc.length := by omega
          obtain ⟨b, o, rfl, hb, hcl⟩ := (HP1.out.below HB2.out).at (by omega)
          obtain ⟨c0, c1, c2⟩ := hcl j hjl
          have hst := says_take acc j hjl
          have HBX := Lib.hid (HB2.out.alloc HB2.out.size (.cells #[.bool acc[j].m, .string ⟨acc[j].n.toArray⟩, .string ⟨acc[j].t.toArray⟩] 34))
          have hvg := HG.out.lt
          clear hcl
          generalize acc[j].n = pn at *
          generalize acc[j].t = pt at *
          rcases hM : acc[j].m with _ | _
          · rw [hM] at hst c0 HBX
            simp only [Bool.false_eq_true, if_false] at hst
            have HST := Lib.hid hst
            clear hM hst
            go_wp2_with (at_builtin; refine wpList_pushR (wr.alloc (.cells #[.bool false, .string ⟨pn.toArray⟩, .string ⟨pt.toArray⟩] 34)) rfl (.tmp 61) (.tmp 64) 32 rfl W.heap.size 9 1 16 _ Try.underlying32 info_str1 rfl (by decide) (by decide) _ ((says (acc.take j)).map strR) (strR pt) _ (by rfl) rfl (by intro u hu; simp only [strR, List.mem_singleton] at hu; subst hu; rfl) (by rfl) (HG.out.alloc _) (by show Value.slice (some ⟨wr.heap.size + 1, 0, none⟩) 1 1 = _; simp) (by rw [List.length_map]; omega) HBX.out.size _ ?_; intro v7 w7 hr7 hg7)
            exact ⟨⟨j + 1, by omega, by simp, Lib.hid (by rw [HST.out, List.map_append]; exact hr7), by rw [HST.out, List.length_append]; simp; omega, Lib.hid (grown_below HBX.out hg7 (fun i e => (hvg i e).1))⟩, by simp [intOf]; omega⟩
          · rw [hM] at hst c0 HBX
            simp only [if_true, List.append_nil] at hst
            have HST := Lib.hid hst
            clear hM hst
            go_wp2
            exact ⟨⟨j + 1, by omega, by simp, Lib.hid (by rw [HST.out]; exact HG.out.alloc _), by rw [HST.out]; omega, HBX⟩, by simp [intOf]; omega⟩
        · have h5 : ¬ (j : Int) < acc.length := by omega
          have e5 : acc.take j = acc := List.take_of_length_le (by omega)
          have hg0 := HG.out
          rw [e5, HSAY.out] at hg0
          obtain ⟨a9, cap9, hv9, hs9⟩ := strs_at hg0
          rw [hl] at hv9 hs9
          subst hv9
          have hf2 := block_below HF.out HB2.out
          have HS9 := Lib.hid hs9
          have HB9 := Lib.hid (HBW.out.trans (HB2.out.mono HBW.out.size))
          have d0 := cell_at (j := 0) hf2
          have d1 := cell_at (j := 1) hf2
          simp only [List.getElem?_toArray, List.getElem?_cons_zero, List.getElem?_cons_succ] at d0 d1
          have hnn : ((n : Int) != n) = false := by simp
          clear hg0 hs9 HG hf2 HP1 HF
          go_upto_region 22 with (go_at_call 29; refine (bad_any _ _ _).mono ?_; rintro e w5 ⟨rfl, hb5⟩; have HS5 := Lib.hid (HS9.out.below hb5); have HB5 := Lib.hid (nextB HB9.out hb5))
          clear d0 d1 hb5 HB9 HS9 HB2
          go_wp2
          go_loopw [78] (fun i wr2 => ∃ (k : Nat), k ≤ n ∧ i = .int .i64 k ∧ Hid (Below w5.heap.size w5 wr2)) (fun i _ => n - (intOf i).toNat)
          case atStart => exact ⟨0, by omega, rfl, Lib.hid (Below.refl _ _)⟩
          case round =>
            obtain ⟨m, hm, rfl, HB7⟩ := hrel
            by_cases hml2 : m < n
            · have h7 : (m : Int) < n := by omega
              have hmp : m < ps.length := by omega
              rcases hs.out.2 with h | ⟨b, off, rfl, hb, hc⟩
              · omega
              have c0 := hc m hmp
              rw [← (HB5.out.trans (HB7.out.mono HB5.out.size)).cell (by exact hb)] at c0
              rcases HS5.out.2 with h | ⟨b9, off9, rfl, hb9, hc9⟩
              · omega
              have c9 := hc9 m hmp
              rw [← HB7.out.cell (by exact hb9)] at c9
              clear hc hc9
              generalize ps[m] = q at *
              go_wp2
              go_quiet (fail)
              go_wp2
              exact ⟨⟨m + 1, by omega, by simp, Lib.hid (below_drewN HB7.out _)⟩, by simp [intOf]; omega⟩
            · have h7 : ¬ (m : Int) < n := by omega
              go_wp2_with (first | (go_at_call 22; refine (awake24' _).mono ?_; rintro e w8 ⟨rfl, hb8⟩) | (go_at_call 28; refine (CC.out _).mono ?_; rintro e w9 ⟨rfl, hb9⟩))
              go_ret
              exact ⟨rfl, nextB (nextB (HB5.out.trans (HB7.out.mono HB5.out.size)) hb8) hb9⟩

theorem walk_SrtTexts (w : World) (v : Value)
    (hv : ∃ (a : Option Addr) (n cap : Nat) (ps : List (List UInt8)), v = .slice a n cap ∧ StrsAt w a n ps ∧ n ≤ cap ∧ n ≤ maxLen ∧ ∀ p ∈ ps, p.length ≤ 1048576) :
    Calls Try.prog 9 #[v] w fun e w' => e = .returned (.bool true) ∧ Below w.heap.size w w' := by
  obtain ⟨a, n, cap, ps, rfl, h, _, _, hp⟩ := hv
  by_cases hn : (20 : Int) < n
  · exact stexts_over a n cap w hn
  · exact stexts_in a n cap ps w (Lib.hid h) (by omega) (Lib.hid hp)
end Go.Proofs.Ytemiegbgnpcbiaa
