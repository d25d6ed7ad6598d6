/- The walk of the statement OctetJoins. -/
import Derived.Test.YtfbdgahbhlapmaaStrs
import Derived.Test.YtfbdgahbhlapmaaOct4
namespace Go.Proofs.Ytfbdgahbhlapmaa
open Go.RowKit
set_option linter.unusedVariables false

theorem diff_self (s r : List UInt8) : diff s (s ++ r) = none := diff_none s _ s.length (by simp) (.inl (Nat.le_refl _))
theorem want_here (t : List UInt8) (k : Nat) (p r : List UInt8) (h : t.drop k = p ++ r) : Rd.want ⟨t, k, 0, 0, 0⟩ p = (⟨t, k + p.length, 0, 0, 0⟩, true) := by
  unfold Rd.want
  simp only [if_true, h, diff_self]
  rw [if_neg (by simp)]
theorem flat_drop (ps : List (List UInt8)) (k : Nat) (h : k < ps.length) : ps.flatten.drop (ps.take k).flatten.length = ps[k] ++ (ps.drop (k + 1)).flatten := by
  have e : ps.flatten = (ps.take k).flatten ++ (ps.drop k).flatten := by rw [← List.flatten_append, List.take_append_drop]
  rw [e, List.drop_left, List.drop_eq_getElem_cons h, List.flatten_cons]

set_option maxRecDepth 100000 in
theorem joins_over (a : Option Addr) (n cap : Nat) (w : World) (h : (60 : Int) < n) :
    Calls Try.prog 13 #[.slice a n cap] w fun e w' => e = .returned (.bool true) ∧ Below w.heap.size w w' := by
  go_enter Try.func13, Try.ntmps13
  go_wp2_with (go_at_call 23; refine (awake01' _).mono ?_; rintro e w1 ⟨rfl, hb1⟩)
  go_ret
  exact ⟨rfl, hb1⟩

set_option maxHeartbeats 2000000 in
set_option maxRecDepth 100000 in
theorem joins_none (a : Option Addr) (cap : Nat) (w : World) :
    Calls Try.prog 13 #[.slice a 0 cap] w fun e w' => e = .returned (.bool true) ∧ Below w.heap.size w w' := by
  have C1 := Lib.hid (fun w => octJoin_any a 0 cap [] w ⟨rfl, .inl rfl⟩ (Nat.zero_le _) (by decide) (by decide))
  have hok := new_ok [] 0 (by decide) (by decide)
  have hnw : Rd.new [] 0 = ⟨[], 0, 0, 0, 0⟩ := rfl
  rw [hnw] at hok
  have HR := Lib.hid (fun w => read_any [] w)
  rw [hnw] at HR
  go_enter Try.func13, Try.ntmps13
  go_wp2
  refine wp_loop_rounds 1 ?_
  rw [rounds_succ]
  go_wp2_with (first | (go_at_call 54; refine (C1.out _).mono ?_; rintro e w1 ⟨rfl, hb1⟩; have HB1 := Lib.hid hb1; clear hb1) | (go_at_call 25; refine (HR.out _).mono ?_; rintro e w2 ⟨rfl, hr2, hb2⟩; have HB2 := Lib.hid (nextB HB1.out hb2); have HR2 := Lib.hid hr2; clear hr2 hb2))
  refine wp_loop_rounds 1 ?_
  rw [rounds_succ]
  go_wp2_with (first | (go_at_call 23; refine (awake01' _).mono ?_; rintro e w3 ⟨rfl, hb3⟩; have HB3 := Lib.hid (nextB HB2.out hb3); have HR3 := Lib.hid (HR2.out.below hb3); clear hb3) | (go_at_call 41; refine (left_any _ _ _ HR3.out hok).mono ?_; rintro e w4 ⟨rfl, hb4⟩; have HB4 := Lib.hid (nextB HB3.out hb4); have HR4 := Lib.hid (HR3.out.below hb4); clear hb4) | (go_at_call 47; refine (at_any _ _ _ HR4.out hok).mono ?_; rintro e w5 ⟨rfl, rfl⟩) | (go_at_call 27; refine (fault_any _ _ _ HR4.out).mono ?_; rintro e w6 ⟨rfl, hb6⟩; have HB6 := Lib.hid (nextB HB4.out hb6); clear hb6) | (go_at_call 28; refine (bad_any _ _ _).mono ?_; rintro e w7 ⟨rfl, hb7⟩; have HB7 := Lib.hid (nextB HB6.out hb7); clear hb7))
  go_ret
  exact ⟨rfl, HB7.out⟩

set_option maxHeartbeats 2000000 in
set_option maxRecDepth 100000 in
theorem joins_in (b off n cap : Nat) (ps : List (List UInt8)) (w : World) (hb : b < w.heap.size) (hn : ps.length = n) (hn9 : n ≤ 60) (hcap : n ≤ cap)
    (hc : Hid (∀ i (h : i < ps.length), w.cell? ⟨b, off + i, none⟩ = some (.string ⟨ps[i].toArray⟩))) :
    Calls Try.prog 13 #[.slice (some ⟨b, off, none⟩) n cap] w fun e w' => e = .returned (.bool true) ∧ Below w.heap.size w w' := by
  go_enter Try.func13, Try.ntmps13
  go_wp2
  go_loopw [3, 16] (fun z i wr => ∃ (k : Nat), k ≤ n ∧ i = .int .i64 k ∧ z = .int .i64 ((ps.take k).flatten.length : Nat) ∧ Hid (∀ p ∈ ps.take k, p.length ≤ 500) ∧ wr = w) (fun _ i _ => n - (intOf i).toNat)
  case atStart => exact ⟨0, by omega, rfl, rfl, Lib.hid (by simp), rfl⟩
  case round =>
    obtain ⟨k, hk, rfl, rfl, HP, rfl⟩ := hrel
    have hfl := flat_len _ _ HP.out
    rw [List.length_take] at hfl
    by_cases hlt : k < n
    · have h0 : (k : Int) < n := by omega
      have hkp : k < ps.length := by omega
      have c0 := hc.out k hkp
      have HFT := Lib.hid (flat_take ps k hkp)
      have HMT := Lib.hid (List.take_succ_eq_append_getElem hkp)
      generalize ps[k] = l at *
      generalize (ps.take k).flatten = u at *
      by_cases hbig : (500 : Int) < l.length
      · go_wp2_with (go_at_call 23; refine (awake01' _).mono ?_; rintro e w1 ⟨rfl, hb1⟩)
        go_ret
        exact ⟨rfl, hb1⟩
      · go_wp2
        refine ⟨⟨k + 1, by omega, by simp, ?_, Lib.hid ?_, trivial⟩, by simp [intOf]; omega⟩
        · rw [HFT.out, List.length_append]; simp
        · rw [HMT.out]
          intro p hp
          rcases List.mem_append.1 hp with hp | hp
          · exact HP.out p hp
          · obtain rfl : p = l := by simpa using hp
            omega
    · have h0 : ¬ (k : Int) < n := by omega
      have e0 : ps.take k = ps := List.take_of_length_le (by omega)
      rw [e0] at HP hfl ⊢
      have hS : StrsAt wr (some ⟨b, off, none⟩) n ps := ⟨hn, .inr ⟨b, off, rfl, hb, hc.out⟩⟩
      have C1 := Lib.hid (octJoin_any (some ⟨b, off, none⟩) n cap ps wr hS hcap (by omega) (by omega))
      have hok := new_ok ps.flatten 0 (by omega) (by decide)
      have hnw : Rd.new ps.flatten 0 = ⟨ps.flatten, 0, 0, 0, 0⟩ := rfl
      rw [hnw] at hok
      have HR := Lib.hid (fun w => read_any ps.flatten w)
      rw [hnw] at HR
      have HD := Lib.hid (flat_drop ps)
      generalize hu : ps.flatten = u at *
      clear hS e0
      go_wp2_with (first | (go_at_call 54; refine C1.out.mono ?_; rintro e w1 ⟨rfl, hb1⟩; have HB1 := Lib.hid hb1; clear hb1) | (go_at_call 25; refine (HR.out _).mono ?_; rintro e w2 ⟨rfl, hr2, hb2⟩; have HB2 := Lib.hid (nextB HB1.out hb2); have HR2 := Lib.hid hr2; clear hr2 hb2))
      have hbs := HB1.out.size
      generalize hw2 : w1.heap.size = rb at *
      go_loopw [35] (fun i wr1 => ∃ (k : Nat), k ≤ n ∧ i = .int .i64 k ∧ (ps.take k).flatten.length ≤ u.length ∧ Hid (RdAt wr1 rb ⟨u, (ps.take k).flatten.length, 0, 0, 0⟩) ∧ Hid (Below wr.heap.size wr wr1)) (fun i _ => n - (intOf i).toNat)
      case atStart => exact ⟨0, by omega, rfl, by simp, HR2, HB2⟩
      case round =>
        obtain ⟨k, hk, rfl, hle, HR3, HB3⟩ := hrel
        have hokk : Rd.Ok ⟨u, (ps.take k).flatten.length, 0, 0, 0⟩ := ⟨hle, hok.2.1, hok.2.2.1, hok.2.2.2⟩
        by_cases hlt : k < n
        · have h0 : (k : Int) < n := by omega
          have hkp : k < ps.length := by omega
          have c0 := hc.out k hkp
          rw [← HB3.out.cell (by exact hb)] at c0
          have HFT := Lib.hid (flat_take ps k hkp)
          have hps := HP.out ps[k] (List.getElem_mem hkp)
          have hd := HD.out k hkp
          have hw := want_here u _ _ _ hd
          have hnl : (ps.take (k + 1)).flatten.length ≤ u.length := by
            have e := congrArg List.length hd
            rw [List.length_drop, List.length_append] at e
            rw [HFT.out, List.length_append]
            omega
          have HX := Lib.hid (want_any rb _ ps[k] _ HR3.out hokk (by omega))
          rw [hw] at HX
          clear hd hw
          generalize ps[k] = l at *
          go_wp2_with (go_at_call 52; refine HX.out.mono ?_; rintro e w4 ⟨rfl, hr4, ho4⟩)
          refine ⟨⟨k + 1, by omega, by simp, hnl, Lib.hid ?_, Lib.hid (onlyB HB3.out ho4 hbs)⟩, by simp [intOf]; omega⟩
          rw [HFT.out, List.length_append]
          exact hr4
        · have h0 : ¬ (k : Int) < n := by omega
          have e0 : ps.take k = ps := List.take_of_length_le (by omega)
          rw [e0, hu] at HR3
          rw [e0, hu] at hokk
          have hl0 : ((u.length : Int) == (u.length : Int)) = true := by simp
          have el : Rd.left ⟨u, u.length, 0, 0, 0⟩ = 0 := by simp [Rd.left]
          have CL := Lib.hid (fun w h => left_any rb ⟨u, u.length, 0, 0, 0⟩ w h hokk)
          rw [el] at CL
          clear HR2 HB2 hle
          go_wp2_with (first | (go_at_call 23; refine (awake01' _).mono ?_; rintro e w3 ⟨rfl, hb3⟩; have HB3 := Lib.hid (nextB HB3.out hb3); have HR3 := Lib.hid (HR3.out.below hb3); clear hb3) | (go_at_call 41; refine (CL.out _ HR3.out).mono ?_; rintro e w4 ⟨rfl, hb4⟩; have HB4 := Lib.hid (nextB HB3.out hb4); have HR4 := Lib.hid (HR3.out.below hb4); clear hb4) | (go_at_call 47; refine (at_any _ _ _ HR4.out hokk).mono ?_; rintro e w5 ⟨rfl, rfl⟩) | (go_at_call 27; refine (fault_any _ _ _ HR4.out).mono ?_; rintro e w6 ⟨rfl, hb6⟩; have HB6 := Lib.hid (nextB HB4.out hb6); clear hb6) | (go_at_call 28; refine (bad_any _ _ _).mono ?_; rintro e w7 ⟨rfl, hb7⟩; have HB7 := Lib.hid (nextB HB6.out hb7); clear hb7))
          go_ret
          exact ⟨rfl, HB7.out⟩

theorem walk_OctetJoins (w : World) (v : Value)
    (hv : ∃ (a : Option Addr) (n cap : Nat) (ps : List (List UInt8)), v = .slice a n cap ∧ StrsAt w a n ps ∧ n ≤ cap ∧ n ≤ maxLen ∧ ∀ p ∈ ps, p.length ≤ maxLen) :
    Calls Try.prog 13 #[v] w fun e w' => e = .returned (.bool true) ∧ Below w.heap.size w w' := by
  obtain ⟨a, n, cap, ps, rfl, h, hcap, hm, hp⟩ := hv
  by_cases hn : (60 : Int) < n
  · exact joins_over a n cap w hn
  obtain ⟨hl, h⟩ := h
  rcases h with rfl | ⟨b, off, rfl, hb, hc⟩
  · exact joins_none a cap w
  · exact joins_in b off n cap ps w hb hl (by omega) hcap (Lib.hid hc)
end Go.Proofs.Ytfbdgahbhlapmaa
