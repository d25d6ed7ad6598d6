/- The law TopPlain, walked. | A world in which the tables lie as the program's text lays them; what the law's walk asks of the world. -/
import Derived.Test.YtndpcphmndfajaaGreatDoorZFl7
import Derived.Test.YtndpcphmndfajaaGreatDoorZKn16
import Derived.Test.YtndpcphmndfajaaGreatDoorZEv0

namespace Go.Proofs.YtndpcphmndfajaaGreatDoor
open Go.RowKit
set_option linter.unusedVariables false
set_option linter.unusedSimpArgs false

theorem fileV_is (q : Nat) (t : List UInt8) : ∃ (r : List UInt8) (x y : Int), fileV q t = .tuple #[.string ⟨r.toArray⟩, .agg #[.int .i64 x, .int .i64 y]] ∧ ((x != 0) = true ∨ ((x != 0) = false ∧ r = t)) := by
  unfold fileV
  rcases kindR q t with a | acc
  · exact ⟨[], 1, a, rfl, .inl rfl⟩
  · exact ⟨t, 0, 0, rfl, .inr ⟨rfl, rfl⟩⟩
theorem awake_any (w : World) (h : Start w) : Calls Tryz.prog 4 #[] w fun e w' => e = .returned (.bool true) ∧ Below w.heap.size w w' := by
  have HK : Hid (Calls Tryz.prog 7 #[] w fun e w' => e = .returned (.bool true) ∧ Below w.heap.size w w') := Lib.hid ((kn16.tells w h [] (by show VRs (ren0 0) [] []; simp [VRs])).mono fun e w' ⟨u, h1, h2, h3⟩ => by
    have h2 : VR (ren0 0) (.b true) u := h2
    simp only [VR] at h2
    rw [h2] at h1
    exact ⟨h1, h3⟩)
  clear h
  go_enter Tryz.func4, Tryz.ntmps4
  go_wp2_with (go_at_call 7; refine (HK.out).mono ?_; rintro e w1 ⟨rfl, hb1⟩)
  go_ret
  exact ⟨rfl, hb1⟩
set_option maxHeartbeats 4000000 in
set_option maxRecDepth 100000 in
theorem plain_any (t : List UInt8) (u : UInt8) (w : World) (h : Start w) (hT : T3 w) (hl : t.length ≤ 9223372036854775807) : Calls Tryz.prog 3 #[.string ⟨t.toArray⟩, .int .u8 u.toNat] w fun e w' => e = .returned (.bool true) ∧ Below w.heap.size w w' := by
  have HA := Lib.hid (awake_any w h)
  have TT := Lib.hid hT
  clear h hT
  by_cases hlen : 300 < t.length
  · have q0 : (300 : Int) < (t.length : Int) := by omega
    go_enter Tryz.func3, Tryz.ntmps3
    go_wp2_with (go_at_call 4; refine (HA.out).mono ?_; rintro e w1 ⟨rfl, hb1⟩)
    go_ret
    exact ⟨rfl, hb1⟩
  have q0 : ¬ (300 : Int) < (t.length : Int) := by omega
  go_enter Tryz.func3, Tryz.ntmps3
  go_wp2_with (go_at_call 4; refine (HA.out).mono ?_; rintro e w1 ⟨rfl, hb1⟩)
  have HB := Lib.hid hb1
  clear hb1 HA
  go_loopw [19] (fun i wr => ∃ k : Nat, k ≤ t.length ∧ i = .int .i64 k ∧ Hid (∀ j (h : j < t.length), j < k → t[j].toNat < 128) ∧ Hid (Below w.heap.size w wr)) (fun i _ => t.length - (intOf i).toNat)
  case atStart => exact ⟨0, by omega, rfl, Lib.hid (fun j _ h => absurd h (Nat.not_lt_zero _)), HB⟩
  case round =>
    obtain ⟨k, hk, rfl, HJ, HW⟩ := hrel
    by_cases hlt : k < t.length
    · have q1 : (k : Int) < (t.length : Int) := by omega
      by_cases hc : t[k].toNat < 128
      · have q2 : ¬ (128 : Int) ≤ (t[k].toNat : Int) := by omega
        have HJ2 : Hid (∀ j (h : j < t.length), j < k + 1 → t[j].toNat < 128) := Lib.hid (fun j hj hjk => by
          by_cases e : j = k
          · subst e; exact hc
          · exact HJ.out j hj (by omega))
        clear hc
        go_wp2
        exact ⟨⟨k + 1, by omega, by simp, HJ2, HW⟩, by simp [intOf]; omega⟩
      · have q2 : (128 : Int) ≤ (t[k].toNat : Int) := by omega
        go_wp2
        go_ret
        exact ⟨rfl, HW.out⟩
    · have q1 : ¬ (k : Int) < (t.length : Int) := by omega
      have ha : Asc t := fun c hc => by
        obtain ⟨i, hi, rfl⟩ := List.getElem_of_mem hc
        exact HJ.out i hi (by omega)
      have HN := Lib.hid (fun (q c : Nat) (d : Bool) (w : World) h1 h2 hc hT => nfile_any q c d t w h1 h2 hc ha (by omega) hT)
      clear HJ ha
      go_upto_region 12 with (fail)
      have hq : 4 + (u.toNat : Int) % 4 = ((4 + u.toNat % 4 : Nat) : Int) := by omega
      rw [hq]
      have hq1 : 4 ≤ 4 + u.toNat % 4 := by omega
      have hq2 : 4 + u.toNat % 4 ≤ 7 := by omega
      clear hq
      generalize 4 + u.toNat % 4 = q at *
      obtain ⟨r, x, y, hv, hxy⟩ := fileV_is q t
      have HF : Hid (∀ (c : Nat) (d : Bool) (wz : World), c ≤ 6 → Below w.heap.size w wz → Calls Tryz.prog 5 #[.string ⟨t.toArray⟩, .agg #[.int .i64 q, .int .i64 c, .bool d, .int .i64 0]] wz fun e w' => e = .returned (.tuple #[.string ⟨r.toArray⟩, .agg #[.int .i64 x, .int .i64 y]]) ∧ Below wz.heap.size wz w') := Lib.hid (fun c d wz hc hb => by
        have := HN.out q c d wz hq1 hq2 hc (TT.out.below hb)
        rw [hv] at this
        exact this)
      have HF0 : Hid (∀ (wz : World), Below w.heap.size w wz → Calls Tryz.prog 5 #[.string ⟨t.toArray⟩, .agg #[.int .i64 q, .int .i64 0, .bool false, .int .i64 0]] wz fun e w' => e = .returned (.tuple #[.string ⟨r.toArray⟩, .agg #[.int .i64 x, .int .i64 y]]) ∧ Below wz.heap.size wz w') := Lib.hid (fun wz hb => HF.out 0 false wz (by omega) hb)
      have BD := Lib.hid (fun w => bad_any x y w)
      clear HN hv hq1 hq2
      go_upto_region 13 with (go_at_call 5; (refine (HF0.out _ HW.out).mono ?_); rintro e w2 ⟨rfl, hb2⟩)
      have F8 := Lib.hid (at_a0 w2 #[.int .i64 x, .int .i64 y] 26)
      have K2 := nextB HW.out hb2
      have K := Lib.hid (K2.alloc K2.size (.cells #[.int .i64 x, .int .i64 y] 26))
      clear hb2 K2 HF0
      generalize w2.alloc (.cells #[.int .i64 x, .int .i64 y] 26) = w3 at *
      generalize w2.heap.size = fb at *
      go_wp2
      go_loopw [38] (fun i wr => ∃ c : Nat, c ≤ 7 ∧ i = .int .i64 c ∧ Hid (wr.heap[fb]? = some (.cells #[.int .i64 x, .int .i64 y] 26 (0, 0))) ∧ Hid (Below w.heap.size w wr)) (fun i _ => 7 - (intOf i).toNat)
      case atStart => exact ⟨0, by omega, rfl, F8, K⟩
      case round =>
        obtain ⟨c, hc, rfl, F, KB⟩ := hrel
        by_cases hlt : c < 7
        · have q3 : (c : Int) < 7 := by omega
          have hc6 : c ≤ 6 := by omega
          rcases hxy with hx | ⟨hx, hrt⟩
          · rw [hx] at BD
            go_wp2_with (first | (go_at_call 5; (refine (HF.out c _ _ hc6 KB.out).mono ?_); rintro e w4 ⟨rfl, hb4⟩; have F4 := Lib.hid (block_below F.out hb4); have K4 := Lib.hid (nextB KB.out hb4); have hfl := (Array.getElem?_eq_some_iff.1 F4.out).1; have F5 := Lib.hid ((heap_alloc_old w4 (.cells #[.int .i64 x, .int .i64 y] 26) hfl).trans F4.out); obtain ⟨f0, f1⟩ := cells2 (F5.out)) | (go_at_call 6; (refine (BD.out _).mono ?_); rintro e w5 ⟨rfl, hb5⟩))
            exact ⟨⟨c + 1, by omega, by simp, Lib.hid (block_below F5.out hb5), Lib.hid (nextB K4.out (below_a1 hb5))⟩, by simp [intOf]; omega⟩
          · rw [hx] at BD
            have e1 : (r == t) = true := by rw [hrt]; simp
            have e2 : (r = t) = True := eq_true hrt
            clear hrt
            go_wp2_with (first | (go_at_call 5; (refine (HF.out c _ _ hc6 KB.out).mono ?_); rintro e w4 ⟨rfl, hb4⟩; have F4 := Lib.hid (block_below F.out hb4); have K4 := Lib.hid (nextB KB.out hb4); have hfl := (Array.getElem?_eq_some_iff.1 F4.out).1; have F5 := Lib.hid ((heap_alloc_old w4 (.cells #[.int .i64 x, .int .i64 y] 26) hfl).trans F4.out); obtain ⟨f0, f1⟩ := cells2 (F5.out)) | (go_at_call 6; (refine (BD.out _).mono ?_); rintro e w5 ⟨rfl, hb5⟩))
            exact ⟨⟨c + 1, by omega, by simp, Lib.hid (block_below F5.out hb5), Lib.hid (nextB K4.out (below_a1 hb5))⟩, by simp [intOf]; omega⟩
        · have q3 : ¬ (c : Int) < 7 := by omega
          go_wp2
          go_ret
          exact ⟨rfl, KB.out⟩
end Go.Proofs.YtndpcphmndfajaaGreatDoor

namespace Go.Proofs.YtndpcphmndfajaaGreatDoor
open Go.RowKit Go.Lib
set_option linter.unusedVariables false
set_option linter.unusedSimpArgs false

theorem t3_of {w : World} (h : w.ShapedOpen Tryz.prog) : T3 w := by
  obtain ⟨m, hm⟩ := cell_of_shapedOpen_int (P := Tryz.prog) (g := 3) (t := 3) (zero := #[.int .i64 0]) (k := .i64) h (of_decide_eq_true (by kernel_rfl)) (by kernel_rfl) rfl (by kernel_rfl) (by kernel_rfl) Tryz.underlying3
  obtain ⟨cs, h1, _, _⟩ := h.1 3 #[.int .i64 0] 3 (of_decide_eq_true (by kernel_rfl)) (by kernel_rfl)
  refine ⟨cs, m, h1, ?_⟩
  rw [cell_at h1] at hm
  exact hm
theorem byte_of {x : Int} (h : (Lit.int .u8 x).wf = true) : ∃ u : UInt8, (u.toNat : Int) = x := by
  have h2 : 0 ≤ x ∧ x < 256 := by
    simp [Lit.wf, IntKind.signed, IntKind.bits, IntKind.min, IntKind.max] at h
    omega
  refine ⟨UInt8.ofNat x.toNat, ?_⟩
  rw [UInt8.toNat_ofNat', Nat.mod_eq_of_lt (by omega)]
  omega
/-- a world in which the tables lie as their initialisers lay them -/
noncomputable def laidWorld (os : Os) : World :=
  let w0 := World.holding Tryz.prog os ⟨#[], #[], []⟩
  let put (h : Array Obj) (g : Nat) (cs : Array Value) : Array Obj := h.modify g fun
    | .cells _ t frozen => .cells cs t frozen
    | o => o
  let h1 := put w0.heap 0 #[.string ⟨#[73, 68, 51]⟩, .int .i64 1, .string ⟨#[79, 103, 103, 83]⟩, .int .i64 2, .string ⟨#[102, 76, 97, 67]⟩, .int .i64 3]
  let h2 := put h1 1 ((Go.Pinned.utf8FirstZ.map Int.ofNat).map fun z => Value.int .u8 z).toArray
  let h3 := put h2 2 ((gRanges.map Int.ofNat).map fun z => Value.int .u8 z).toArray
  let h4 := put h3 4 ((gBruijn.map Int.ofNat).map fun z => Value.int .u8 z).toArray
  { w0 with heap := h4 }
theorem laid_met (os : Os) (args : Array Value) : laidMet Tryz.prog laid4 ((laidWorld os).forCall (fun _ _ => 0) ⟨#[], args, []⟩).memory :=
  laidMet_of_run' 8 (by kernel_rfl) (by kernel_rfl)
end Go.Proofs.YtndpcphmndfajaaGreatDoor
