/- The walk of the statement PageAll. -/
import Derived.Test.YtaifdkklijpjnaaPage12
namespace Go.Proofs.Ytaifdkklijpjnaa
open Go.RowKit
set_option linter.unusedVariables false

theorem pages_cells {w : World} {a : Option Addr} {n : Nat} {L : List Pg} (h : RecsAt w a n 6 (L.map pgR)) (k : Nat) (hk : k < L.length) : ∃ b off, a = some ⟨b, off, none⟩ ∧ b < w.heap.size ∧
    w.cell? ⟨b, off + k * 6, none⟩ = some (.int .u8 L[k].fl.toNat) ∧ w.cell? ⟨b, off + k * 6 + 1, none⟩ = some (.int .u64 L[k].po) ∧ w.cell? ⟨b, off + k * 6 + 2, none⟩ = some (.int .u32 L[k].se) ∧
    w.cell? ⟨b, off + k * 6 + 3, none⟩ = some (.int .u32 L[k].nu) ∧ w.cell? ⟨b, off + k * 6 + 4, none⟩ = some (.string ⟨L[k].la.toArray⟩) ∧ w.cell? ⟨b, off + k * 6 + 5, none⟩ = some (.string ⟨L[k].bo.toArray⟩) := by
  have hn := h.1
  rcases h.2.2 with h0 | ⟨b, off, ha, hb, hc⟩
  · simp at hn; omega
  · have hk' : k < (L.map pgR).length := by simpa using hk
    have e : (L.map pgR)[k] = pgR L[k] := by simp
    have k0 := hc k hk' 0 (by decide)
    have k1 := hc k hk' 1 (by decide)
    have k2 := hc k hk' 2 (by decide)
    have k3 := hc k hk' 3 (by decide)
    have k4 := hc k hk' 4 (by decide)
    have k5 := hc k hk' 5 (by decide)
    rw [e] at k0 k1 k2 k3 k4 k5
    exact ⟨b, off, ha, hb, k0, k1, k2, k3, k4, k5⟩
theorem ints_cells {w : World} {a : Option Addr} {n : Nat} {L : List Int} (h : RecsAt w a n 1 (L.map intR)) (k : Nat) (hk : k < L.length) : ∃ b off, a = some ⟨b, off, none⟩ ∧ b < w.heap.size ∧
    w.cell? ⟨b, off + k, none⟩ = some (.int .i64 L[k]) := by
  have hn := h.1
  rcases h.2.2 with h0 | ⟨b, off, ha, hb, hc⟩
  · simp at hn; omega
  · have hk' : k < (L.map intR).length := by simpa using hk
    have e : (L.map intR)[k] = intR L[k] := by simp
    have k0 := hc k hk' 0 (by decide)
    rw [e, Nat.mul_one] at k0
    exact ⟨b, off, ha, hb, k0⟩
theorem fileL_le (ps : List Pg) (h : ∀ p ∈ ps, p.la.length ≤ 300 ∧ p.bo.length ≤ 600) : (fileL ps).length ≤ 1000 * ps.length := by
  induction ps with
  | nil => simp [fileL]
  | cons p ps ih =>
    have h1 := h p List.mem_cons_self
    have h2 := ih fun q hq => h q (List.mem_cons_of_mem _ hq)
    rw [fileL_cons, List.length_append, print_len, List.length_cons]
    omega
theorem recs_atv {w : World} {base e size n cap : Nat} {a : Option Addr} {L : List (List Value)} (h : Recs w base e size (.slice a n cap) L) : RecsAt w a L.length size L := by
  obtain ⟨a', cap', hv, _, hr⟩ := h.at
  obtain ⟨rfl, rfl, rfl⟩ : a = a' ∧ n = L.length ∧ cap = cap' := by simpa using hv
  exact hr
def Fair (p : Pg) : Prop := Fine p ∧ p.la.length ≤ 300 ∧ p.bo.length ≤ 600
set_option maxRecDepth 100000 in
theorem pall_over (a : Option Addr) (n cap : Nat) (k : Int) (w : World) (h : (12 : Int) < n) :
    Calls Try.prog 5 #[.slice a n cap, .int .u16 k] w fun e w' => e = .returned (.bool true) ∧ Below w.heap.size w w' := by
  go_enter Try.func5, Try.ntmps5
  go_wp2_with (go_at_call 10; refine (awake17' _).mono ?_; rintro e w1 ⟨rfl, hb1⟩)
  go_ret
  exact ⟨rfl, hb1⟩

set_option maxHeartbeats 8000000 in
set_option maxRecDepth 100000 in
theorem pall_in (a : Option Addr) (n cap : Nat) (ps : List Pg) (ct : Nat) (w : World) (hs : Hid (RecsAt w a n 6 (ps.map pgR))) (hn : n ≤ 12) (hp : Hid (∀ q ∈ ps, q.Ok ∧ q.la.length ≤ maxLen ∧ q.bo.length ≤ maxLen)) (hct : ct < 65536) :
    Calls Try.prog 5 #[.slice a n cap, .int .u16 ct] w fun e w' => e = .returned (.bool true) ∧ Below w.heap.size w w' := by
  have hl : ps.length = n := by simpa using hs.out.1
  have HL := Lib.hid hl
  go_enter Try.func5, Try.ntmps5
  go_wp2
  go_loopw [5, 6, 27] (fun z pv i wr => ∃ (k : Nat), k ≤ n ∧ i = .int .i64 k ∧ z = .string ⟨(fileL (ps.take k)).toArray⟩ ∧ Hid (Recs wr w.heap.size 3 1 pv ((placesI 0 (ps.take k)).map intR)) ∧ Hid (∀ p ∈ ps.take k, Fair p) ∧ Hid (Below w.heap.size w wr)) (fun _ _ i _ => n - (intOf i).toNat)
  case atStart => exact ⟨0, by omega, rfl, rfl, Lib.hid (Recs.nil _ _ _ _), Lib.hid (by simp), Lib.hid (Below.refl _ _)⟩
  case round =>
    obtain ⟨k, hk, rfl, rfl, HV, HP, HB⟩ := hrel
    have hml := fileL_le _ (fun p hp => (HP.out p hp).2)
    rw [List.length_take] at hml
    clear hl
    by_cases hlt : k < n
    · have h0 : (k : Int) < n := by omega
      have hkl : k < ps.length := by rw [HL.out]; exact hlt
      obtain ⟨b, off, rfl, hb, c0, c1, c2, c3, c4, c5⟩ := pages_cells hs.out k hkl
      rw [← HB.out.cell (by exact hb)] at c0 c1 c2 c3 c4 c5
      have hq := hp.out _ (List.getElem_mem hkl)
      have HMT := Lib.hid (List.take_succ_eq_append_getElem hkl)
      have HB3 : Hid (b < w.heap.size) := Lib.hid hb
      clear hb
      generalize ps[k] = q at *
      clear hkl
      have hmk : (fileL (ps.take k)).length ≤ 12000 := by omega
      have HF := Lib.hid (fileL_snoc (ps.take k) q)
      have HG := Lib.hid (placesI_snoc (ps.take k) 0 q)
      have hpl := placesI_len (ps.take k) 0
      have hpk : (placesI 0 (ps.take k)).length ≤ 12 := by rw [hpl, List.length_take]; omega
      clear hml hpl
      generalize fileL (ps.take k) = F at *
      generalize placesI 0 (ps.take k) = PL at *
      by_cases hbig1 : (300 : Int) < q.la.length
      · go_wp2_with (go_at_call 10; (with_reducible refine (awake17' _).mono ?_); rintro e w2 ⟨rfl, hb2⟩)
        go_ret
        exact ⟨rfl, nextB (HB.out.alloc HB.out.size _) hb2⟩
      by_cases hbig2 : (600 : Int) < q.bo.length
      · go_wp2_with (go_at_call 10; (with_reducible refine (awake17' _).mono ?_); rintro e w2 ⟨rfl, hb2⟩)
        go_ret
        exact ⟨rfl, nextB (HB.out.alloc HB.out.size _) hb2⟩
      by_cases hck : checkC q = 0
      · have PR := Lib.hid (fun w => print_ok q w hq.1 (by omega) (by omega) hck)
        have BD := Lib.hid (fun w => bad_any 0 0 w)
        rw [show ((0 : Int) != 0) = false by rfl] at BD
        have hsl := print_len q
        have hfair : Fair q := ⟨⟨hq.1, hck⟩, by omega, by omega⟩
        have hsl2 : (printL q).length ≤ 1000 := by omega
        have HFA := Lib.hid hfair
        clear hsl hfair hck hq
        generalize printL q = s at *
        unfold pgV pgR at PR
        go_wp2_with (first | (go_at_call 11; (with_reducible refine (PR.out _).mono ?_); rintro e w1 ⟨rfl, hb1⟩; have K1 := Lib.hid (nextB (HB.out.alloc HB.out.size _) hb1); have V1 := Lib.hid ((HV.out.alloc _).below hb1); clear hb1) | (go_at_call 12; (with_reducible refine (BD.out _).mono ?_); rintro e w2 ⟨rfl, hb2⟩; have K2 := Lib.hid (nextB (K1.out.alloc K1.out.size _) hb2); have V2 := Lib.hid ((V1.out.alloc _).below hb2); clear hb2) | (at_builtin; refine wpList_pushR w2 rfl (.tmp 50) (.tmp 53) 51 rfl w.heap.size 3 1 8 _ Try.underlying51 info_int rfl (by decide) (by decide) _ (PL.map intR) (intR F.length) _ (by rfl) rfl (one_intR _) (by rfl) V2.out (by rfl) (by rw [List.length_map]; omega) K2.out.size _ ?_; intro v3 w3 hr3 hg3; have hl3 := V2.out.lt; have V3 := Lib.hid hr3; have K3 := Lib.hid (grown_belowR K2.out hg3 (fun j e => (hl3 j e).1) K2.out.size); clear hl3 hr3 hg3))
        refine ⟨⟨k + 1, by omega, by simp, ?_, Lib.hid ?_, Lib.hid ?_, K3⟩, by simp [intOf]; omega⟩
        · rw [HMT.out, HF.out]
        · rw [HMT.out, HG.out, List.map_append, Int.zero_add]; exact V3.out
        · rw [HMT.out]
          intro p hp
          rcases List.mem_append.1 hp with hp | hp
          · exact HP.out p hp
          · obtain rfl : p = q := by simpa using hp
            exact HFA.out
      · have PR := Lib.hid (fun w => print_bad q w (by omega) hck)
        generalize checkC q = c at *
        have BD := Lib.hid (fun w => bad_any c 0 w)
        rw [show (c != 0) = true by simpa using hck] at BD
        clear hck hq
        unfold pgV pgR at PR
        go_wp2_with (first | (go_at_call 11; (with_reducible refine (PR.out _).mono ?_); rintro e w1 ⟨rfl, hb1⟩; have K1 := Lib.hid (nextB (HB.out.alloc HB.out.size _) hb1); clear hb1) | (go_at_call 12; (with_reducible refine (BD.out _).mono ?_); rintro e w2 ⟨rfl, hb2⟩; have K2 := Lib.hid (nextB (K1.out.alloc K1.out.size _) hb2); clear hb2) | (go_at_call 10; (with_reducible refine (awake17' _).mono ?_); rintro e w3 ⟨rfl, hb3⟩))
        go_ret
        exact ⟨rfl, nextB K2.out hb3⟩
    · have h0 : ¬ (k : Int) < n := by omega
      obtain rfl : k = n := by omega
      have e0 : ps.take k = ps := List.take_of_length_le (by rw [HL.out]; exact Nat.le_refl _)
      rw [e0] at HP hml HV
      rw [e0]
      clear e0 hlt hk
      have hfine : ∀ p ∈ ps, Fine p := fun p hp => (HP.out p hp).1
      have htxt := pages_text ps hfine
      have hlk : ps.length ≤ 12 := by rw [HL.out]; exact hn
      have hpart := fun n h1 h2 => pages_part ps n hfine h1 h2
      have hpg := fun w => pages_any (fileL ps) w (by omega)
      have hpc := fun n w => pages_any ((fileL ps).take n) w (by rw [List.length_take]; omega)
      unfold PagesSay at hpg hpc
      rw [htxt] at hpg
      have PG : Hid (∀ w, Calls Try.prog 22 #[.string ⟨(fileL ps).toArray⟩] w fun e w' => ∃ v1 v2, e = .returned (.tuple #[v1, v2, .agg #[.int .i64 0, .int .i64 0]]) ∧ Recs w' w.heap.size 27 6 v1 (ps.map pgR) ∧ Recs w' w.heap.size 3 1 v2 ((placesI 0 ps).map intR) ∧ Below w.heap.size w w') :=
        Lib.hid fun w => (hpg w).mono fun e w' ⟨hb, h⟩ => by
          rcases h with ⟨_, v1, v2, h1, h2, h3⟩ | ⟨h1, _⟩
          · exact ⟨v1, v2, h1, h2, h3, hb⟩
          · exact absurd rfl h1
      have PC : Hid (∀ (n : Nat), n < (fileL ps).length → (n : Int) ∉ placesI 0 ps → ∀ w, Calls Try.prog 22 #[.string ⟨((fileL ps).take n).toArray⟩] w fun e w' => e = .returned (.tuple #[.slice none 0 0, .slice none 0 0, .agg #[.int .i64 1, .int .i64 n]]) ∧ Below w.heap.size w w') :=
        Lib.hid fun n h1 h2 w => (hpc n w).mono fun e w' ⟨hb, h⟩ => by
          obtain ⟨hc, hq⟩ := hpart n h1 h2
          rcases h with ⟨h1, _⟩ | ⟨_, h1⟩
          · rw [hc] at h1; exact absurd h1 (by decide)
          · rw [hc, hq] at h1
            exact ⟨h1, hb⟩
      have hpl := placesI_len ps 0
      have HPL := Lib.hid hpl
      have hf0 : (fileL ps).length ≤ 12000 := by omega
      clear hfine htxt hpg hpc hpart hml hpl hlk
      generalize fileL ps = F at *
      generalize placesI 0 ps = PL at *
      have BD := Lib.hid (fun w => bad_any 0 0 w)
      rw [show ((0 : Int) != 0) = false by rfl] at BD
      obtain ⟨a6, cap6, hv6, hcap6, hr6⟩ := HV.out.at
      rw [List.length_map, HPL.out, HL.out] at hv6
      subst hv6
      have tk : ((k : Int) != (k : Int)) = false := by simp
      clear hcap6 hr6
      go_upto_region 20 with (first | (go_at_call 22; (with_reducible refine (PG.out _).mono ?_); rintro e w1 ⟨v1, v2, rfl, hr1, hr2, hb1⟩; obtain ⟨a1, cap1, hv1, hc1, hx1⟩ := hr1.at; obtain ⟨a2, cap2, hv2, hc2, hx2⟩ := hr2.at; rw [List.length_map, HL.out] at hv1; rw [List.length_map, HPL.out, HL.out] at hv2; subst hv1; subst hv2; have X1 := Lib.hid hx1; have X2 := Lib.hid hx2; have V1 := Lib.hid (HV.out.below hb1); have K1 := Lib.hid (nextB HB.out hb1); clear hr1 hr2 hb1 hc1 hc2 hx1 hx2) | (go_at_call 12; (with_reducible refine (BD.out _).mono ?_); rintro e w2 ⟨rfl, hb2⟩; have K2 := Lib.hid (nextB (K1.out.alloc K1.out.size _) hb2); have Y1 := Lib.hid (X1.out.below (below_a1 hb2)); have Y2 := Lib.hid (X2.out.below (below_a1 hb2)); have V2 := Lib.hid (V1.out.below (below_a1 hb2)); clear hb2))
      have Y0 := Lib.hid (hs.out.below K2.out)
      have Y6 := Lib.hid (recs_atv V2.out)
      clear X1 X2 V1 V2 HV K1 PG hs HP hp
      go_loopw [83] (fun i wr => ∃ (j : Nat), j ≤ k ∧ i = .int .i64 j ∧ Hid (Below w2.heap.size w2 wr)) (fun i _ => k - (intOf i).toNat)
      case atStart => exact ⟨0, by omega, rfl, Lib.hid (Below.refl _ _)⟩
      case round =>
        obtain ⟨j, hj, rfl, HW⟩ := hrel
        by_cases hjk : j < k
        · have hjp : j < ps.length := by rw [HL.out]; exact hjk
          have hjq : j < PL.length := by rw [HPL.out, HL.out]; exact hjk
          obtain ⟨b1, o1, rfl, hb1, c0, c1, c2, c3, c4, c5⟩ := pages_cells Y0.out j hjp
          obtain ⟨b2, o2, rfl, hb2, d0, d1, d2, d3, d4, d5⟩ := pages_cells Y1.out j hjp
          obtain ⟨b3, o3, rfl, hb3, e0⟩ := ints_cells Y2.out j hjq
          obtain ⟨b4, o4, rfl, hb4, f0⟩ := ints_cells Y6.out j hjq
          rw [← HW.out.cell (by assumption)] at c0 c1 c2 c3 c4 c5 d0 d1 d2 d3 d4 d5 e0 f0
          clear hb1 hb2 hb3 hb4
          generalize ps[j] = q at *
          generalize PL[j] = z at *
          clear hjp hjq
          have g0 : (j : Int) < k := by omega
          have g1 : (0 : Int) ≤ j := by omega
          go_upto_region 22 with (fail)
          go_quiet (fail)
          go_wp2
          refine ⟨⟨j + 1, by omega, by simp, Lib.hid (by first | exact HW.out | exact below_drewN HW.out _)⟩, by simp [intOf]; omega⟩
        · have g0 : ¬ (j : Int) < k := by omega
          have K3 := Lib.hid (nextB K2.out HW.out)
          have Z6 := Lib.hid (Y6.out.below HW.out)
          clear Y0 Y1 Y2 Y6 HW K2
          rcases hE : F.isEmpty with _ | _
          · have hF : 0 < F.length := by cases F; simp at hE; simp
            have hE2 : (F.isEmpty = true) = False := by rw [hE]; simp
            go_upto_region 27 with (fail)
            have HMOD := Lib.hid (show (ct : Int) % (F.length : Int) = ((ct % F.length : Nat) : Int) from (Int.natCast_emod ct F.length).symm)
            have hF1 : (1 : Int) ≤ (F.length : Int) := by omega
            have hq := Nat.mod_lt ct hF
            go_wp2
            rw [HMOD.out]
            clear HMOD
            generalize ct % F.length = q at *
            go_loopw [117] (fun i ws => ∃ (j : Nat), j ≤ k ∧ i = .int .i64 j ∧ Hid (∀ x ∈ PL.take j, x ≠ (q : Int)) ∧ ws = wr) (fun i _ => k - (intOf i).toNat)
            case atStart => exact ⟨0, by omega, rfl, Lib.hid (by simp), rfl⟩
            case round =>
              obtain ⟨j, hj, rfl, HN, rfl⟩ := hrel
              by_cases hjk : j < k
              · have hjq : j < PL.length := by rw [HPL.out, HL.out]; exact hjk
                obtain ⟨b4, o4, rfl, hb4, f0⟩ := ints_cells Z6.out j hjq
                have HT := Lib.hid (List.take_succ_eq_append_getElem hjq)
                clear hb4
                generalize PL[j] = z at *
                clear hjq
                have g0 : (j : Int) < k := by omega
                have g1 : (0 : Int) ≤ j := by omega
                by_cases hz : z = (q : Int)
                · have tz : (z == (q : Int)) = true := by simpa using hz
                  clear hz
                  go_wp2_with (go_at_call 10; (with_reducible refine (awake17' _).mono ?_); rintro e w5 ⟨rfl, hb5⟩)
                  go_ret
                  exact ⟨rfl, nextB K3.out hb5⟩
                · have tz : (z == (q : Int)) = false := by simpa using hz
                  have HZ := Lib.hid hz
                  clear hz
                  go_wp2
                  refine ⟨⟨j + 1, by omega, by simp, Lib.hid ?_, trivial⟩, by simp [intOf]; omega⟩
                  rw [HT.out]
                  intro x hx
                  rcases List.mem_append.1 hx with hx | hx
                  · exact HN.out x hx
                  · obtain rfl : x = z := by simpa using hx
                    exact HZ.out
              · have g0 : ¬ (j : Int) < k := by omega
                obtain rfl : j = k := by omega
                have e0 : PL.take j = PL := List.take_of_length_le (by rw [HPL.out, HL.out]; exact Nat.le_refl _)
                have hnot : (q : Int) ∉ PL := by
                  intro hin
                  rw [← e0] at hin
                  exact HN.out _ hin rfl
                have PQ := Lib.hid (PC.out q hq hnot)
                have hq2 : (q : Int) ≤ F.length := by omega
                have hq3 : q ≤ F.length := by omega
                clear hnot e0 PC
                go_wp2_with (first | (go_at_call 22; (with_reducible refine (PQ.out _).mono ?_); rintro e w5 ⟨rfl, hb5⟩; have K5 := Lib.hid (nextB K3.out hb5); clear hb5) | (go_at_call 10; (with_reducible refine (awake17' _).mono ?_); rintro e w6 ⟨rfl, hb6⟩; have K6 := Lib.hid (nextB (K5.out.alloc K5.out.size _) hb6); have T6 := block_below (at_a0 w5 #[.int .i64 1, .int .i64 q] 32) hb6; have c0 := cell_at (j := 0) T6; have c1 := cell_at (j := 1) T6; simp only [List.getElem?_toArray, List.getElem?_cons_zero, List.getElem?_cons_succ] at c0 c1; clear hb6 T6))
                go_ret
                exact ⟨rfl, K6.out⟩
          · have hE2 : (F.isEmpty = true) = True := by rw [hE]; simp
            go_wp2_with (go_at_call 10; (with_reducible refine (awake17' _).mono ?_); rintro e w5 ⟨rfl, hb5⟩)
            go_ret
            exact ⟨rfl, nextB K3.out hb5⟩
theorem walk_PageAll (w : World) (v : Value) (hv : PagesIn w v) (k : Int) (hk : (Lit.int .u16 k).wf = true) :
    Calls Try.prog 5 #[v, .int .u16 k] w fun e w' => e = .returned (.bool true) ∧ Below w.heap.size w w' := by
  obtain ⟨a, n, cap, ps, rfl, hs, _, _, hp⟩ := hv
  have h2 : 0 ≤ k ∧ k < 65536 := by
    simp [Lit.wf, IntKind.bits, IntKind.signed, IntKind.min, IntKind.max] at hk
    omega
  obtain ⟨j, rfl⟩ : ∃ j : Nat, k = j := ⟨k.toNat, by omega⟩
  by_cases h : (12 : Int) < n
  · exact pall_over a n cap _ w h
  · exact pall_in a n cap ps j w (Lib.hid hs) (by omega) (Lib.hid hp) (by omega)
end Go.Proofs.Ytaifdkklijpjnaa
