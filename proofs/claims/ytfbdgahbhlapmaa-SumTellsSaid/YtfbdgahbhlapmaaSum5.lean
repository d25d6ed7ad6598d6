/- The walks of the statements of layer 16 (sum). -/
import Derived.Test.YtfbdgahbhlapmaaSum4
import Derived.SliceStrings
import Derived.OpenShut
namespace Go.Proofs.Ytfbdgahbhlapmaa
open Go.RowKit
set_option linter.unusedVariables false

/-- a slice of texts that came in -/
theorem open_strs {H : Type} {enc : TypeId × Value → H} {w : World} {base : Nat} {spare : Nat → Bool} {held : Bool} {v : Value} {d : DataW H} {p : List MemPlace} {r : Reach} {b0 : Nat}
    (hv : Value.okWide Try.prog w r b0 40 v) (h : DataW.Trod enc Try.prog w base spare held 40 v d p) :
    ∃ (a : Option Addr) (n cap : Nat) (ps : List (List UInt8)), v = .slice a n cap ∧ StrsAt w a n ps ∧ n ≤ maxLen ∧ ∀ p ∈ ps, p.length ≤ maxLen := by
  obtain ⟨sa, sl, sc, rfl⟩ := Go.WideShapes.okWide_slice Try.underlying40 hv
  obtain ⟨fuel, hf⟩ := h
  have hlt := DataW.trod_lt _ _ _ _ hf
  rcases Go.ChangeShapes.open_strings Try.underlying40 Try.underlying9 (by kernel_rfl) hf with ⟨hc, hx⟩ | ⟨a, len, cap, ss, hc, hb, hl, hcap, hss, hx, hi, hsz⟩
  · obtain ⟨rfl, rfl, rfl⟩ : sa = none ∧ sl = 0 ∧ sc = 0 := by simpa [Value.cells] using hc
    exact ⟨none, 0, 0, [], rfl, ⟨rfl, .inl rfl⟩, by decide, by simp⟩
  · obtain ⟨rfl, rfl, rfl⟩ : sa = some a ∧ sl = len ∧ sc = cap := by simpa [Value.cells] using hc
    have hlm : sl ≤ ss.length := by rw [hss]; split <;> omega
    refine ⟨some a, sl, sc, (ss.take sl).map fun b => b.data.toList, rfl, ⟨by simp; omega, ?_⟩, by omega, ?_⟩
    · by_cases h0 : sl = 0
      · exact .inl h0
      right
      have hz : a.block < w.heap.size := by
        refine hlt (.cell a.block (a.off + 0)) ?_
        rw [hx]
        exact MemPlace.mem_row.2 ⟨0, by omega, rfl⟩
      obtain ⟨b, off, spot⟩ := a
      have hspot : spot = none := by simpa [Addr.add] using World.cell?_spot (hi 0 (by omega))
      subst hspot
      refine ⟨b, off, rfl, hz, ?_⟩
      intro i h
      have hil : i < sl := by simp at h; omega
      have hc := hi i (by omega)
      rw [Go.WideShapes.add_plain] at hc
      rw [hc]
      have : i < ss.length := by omega
      simp [List.getD_eq_getElem?_getD, this]
    · intro p hp
      obtain ⟨b, hb, rfl⟩ := List.mem_map.1 hp
      have := hsz b (List.mem_of_mem_take hb)
      rw [Array.length_toList]
      exact this

set_option maxHeartbeats 1000000 in
set_option maxRecDepth 100000 in
theorem walk_SumReckons (n : Int) (hn : (Lit.int .u32 n).wf = true) (l : List UInt8) (hl : l.length ≤ maxLen) (w : World) :
    Calls Try.prog 9 #[.int .u32 n, .string ⟨l.toArray⟩] w fun e w' => e = .returned (.bool true) ∧ Below w.heap.size w w' := by
  obtain ⟨k, rfl⟩ := Int.eq_ofNat_of_zero_le (bounds_u32 hn).1
  have hk := (bounds_u32 hn).2
  obtain ⟨s, rfl⟩ : ∃ s : BitVec 32, k = s.toNat := ⟨BitVec.ofNat 32 k, by rw [BitVec.toNat_ofNat]; omega⟩
  by_cases hbig : (2000 : Int) < l.length
  · go_enter Try.func9, Try.ntmps9
    go_wp2_with (go_at_call 29; refine (awake16' _).mono ?_; rintro e w1 ⟨rfl, hb1⟩)
    go_ret
    exact ⟨rfl, hb1⟩
  · have h9 : l.length ≤ 1000000000 := by omega
    have c1 := fun w => sumAdd_any s (some ⟨w.heap.size, 0, none⟩) 1 1 [l] (w.alloc (.cells #[.string ⟨l.toArray⟩] 9)) (StrsAt.one w l _) (by decide) (by simpa using h9)
    have e1 : adds s [l] = add s l := rfl
    have c2 := fun w => refOf_any s l w h9
    rw [e1] at c1
    generalize add s l = z at *
    have hz := z.isLt
    have C1 := Lib.hid c1
    have C2 := Lib.hid c2
    have C3 := Lib.hid (fun w => rsmall_any z.toNat 4 4 w (Lib.hid (by omega)) (Lib.hid (by decide)))
    have C4 := Lib.hid (fun w => sumBytes_any z w)
    generalize smallL z.toNat 4 = q at *
    clear c1 c2 e1
    go_enter Try.func9, Try.ntmps9
    go_wp2_with (first | (go_at_call 30; refine (C1.out _).mono ?_; rintro e w1 ⟨rfl, hb1⟩) | (go_at_call 42; refine (C2.out _).mono ?_; rintro e w2 ⟨rfl, rfl⟩) | (go_at_call 29; refine (awake16' _).mono ?_; rintro e w3 ⟨rfl, hb3⟩) | (go_at_call 43; refine (C4.out _).mono ?_; rintro e w4 ⟨rfl, hb4⟩) | (go_at_call 35; refine (C3.out _).mono ?_; rintro e w5 ⟨rfl, hb5⟩))
    go_ret
    exact ⟨rfl, nextB (nextB (nextB (below_a1 hb1) hb3) hb4) hb5⟩

theorem flat_take (ps : List (List UInt8)) (k : Nat) (h : k < ps.length) : (ps.take (k + 1)).flatten = (ps.take k).flatten ++ ps[k] := by
  rw [List.take_succ_eq_append_getElem h, List.flatten_append]; simp [-List.flatten_append]

theorem StrsAt.below {w w' : World} {a : Option Addr} {n : Nat} {ps : List (List UInt8)} (h : StrsAt w a n ps) (hb : Below w.heap.size w w') : StrsAt w' a n ps := by
  refine ⟨h.1, ?_⟩
  rcases h.2 with h0 | ⟨b, off, rfl, hlt, hc⟩
  · exact .inl h0
  · exact .inr ⟨b, off, rfl, Nat.lt_of_lt_of_le hlt hb.size, fun i h => by rw [hb.cell (by exact hlt)]; exact hc i h⟩
theorem flat_len (ps : List (List UInt8)) (h : ∀ p ∈ ps, p.length ≤ 200) : ps.flatten.length ≤ 200 * ps.length := by
  induction ps with
  | nil => simp
  | cons p ps ih =>
    have h1 := h p List.mem_cons_self
    have h2 := ih fun q hq => h q (List.mem_cons_of_mem _ hq)
    rw [List.flatten_cons, List.length_append, List.length_cons]
    omega

set_option maxHeartbeats 1000000 in
set_option maxRecDepth 100000 in
theorem parts_over (a : Option Addr) (n cap : Nat) (w : World) (h : (40 : Int) < n) :
    Calls Try.prog 7 #[.slice a n cap] w fun e w' => e = .returned (.bool true) ∧ Below w.heap.size w w' := by
  go_enter Try.func7, Try.ntmps7
  go_wp2_with (go_at_call 29; refine (awake16' _).mono ?_; rintro e w1 ⟨rfl, hb1⟩)
  go_ret
  exact ⟨rfl, hb1⟩

set_option maxHeartbeats 1000000 in
set_option maxRecDepth 100000 in
theorem parts_none (a : Option Addr) (cap : Nat) (w : World) :
    Calls Try.prog 7 #[.slice a 0 cap] w fun e w' => e = .returned (.bool true) ∧ Below w.heap.size w w' := by
  have c1 := fun w => sumOf_any a 0 cap [] w ⟨rfl, .inl rfl⟩ (by decide) (by simp)
  have c2 := fun w => sumOf_any (some ⟨w.heap.size, 0, none⟩) 1 1 [[]] (w.alloc (.cells #[.string ⟨#[]⟩] 9)) (StrsAt.one w [] _) (by decide) (by simp)
  have e1 : ((adds 0 []).toNat : Int) = 0 := by decide +kernel
  have e2 : ((adds 0 [[]]).toNat : Int) = 0 := by decide +kernel
  rw [e1] at c1
  rw [e2] at c2
  have C1 := Lib.hid c1
  have C2 := Lib.hid c2
  clear c1 c2
  go_enter Try.func7, Try.ntmps7
  go_wp2
  refine wp_loop_rounds 1 ?_
  rw [rounds_succ]
  go_wp2_with (first | (go_at_call 29; refine (awake16' _).mono ?_; rintro e w1 ⟨rfl, hb1⟩) | (go_at_call 31; first | (refine (C1.out _).mono ?_; rintro e w2 ⟨rfl, hb2⟩) | (refine (C2.out _).mono ?_; rintro e w3 ⟨rfl, hb3⟩)))
  go_ret
  exact ⟨rfl, nextB (nextB hb1 hb2) (below_a1 hb3)⟩

set_option maxHeartbeats 2000000 in
set_option maxRecDepth 100000 in
theorem parts_in (b off n cap : Nat) (ps : List (List UInt8)) (w : World) (hb : b < w.heap.size) (hn : ps.length = n) (hn9 : n ≤ 40)
    (hc : Hid (∀ i (h : i < ps.length), w.cell? ⟨b, off + i, none⟩ = some (.string ⟨ps[i].toArray⟩))) :
    Calls Try.prog 7 #[.slice (some ⟨b, off, none⟩) n cap] w fun e w' => e = .returned (.bool true) ∧ Below w.heap.size w w' := by
  go_enter Try.func7, Try.ntmps7
  go_wp2
  go_loopw [3, 4, 13] (fun t z i wr => ∃ (k : Nat), k ≤ n ∧ i = .int .i64 k ∧ t = .string ⟨(ps.take k).flatten.toArray⟩ ∧ z = .int .u32 (adds 0 (ps.take k)).toNat ∧ Hid (∀ p ∈ ps.take k, p.length ≤ 200) ∧ Hid (Below w.heap.size w wr)) (fun _ _ i _ => n - (intOf i).toNat)
  case atStart => exact ⟨0, by omega, rfl, rfl, by rw [List.take_zero]; rfl, Lib.hid (by simp), Lib.hid (Below.refl _ _)⟩
  case round =>
    obtain ⟨k, hk, rfl, rfl, rfl, HP, HB⟩ := hrel
    have hfl := flat_len _ HP.out
    rw [List.length_take] at hfl
    by_cases hlt : k < n
    · have h0 : (k : Int) < n := by omega
      have hkp : k < ps.length := by omega
      have c0 := hc.out k hkp
      rw [← HB.out.cell (by exact hb)] at c0
      have HFT := Lib.hid (flat_take ps k hkp)
      have HPT := Lib.hid (adds_take 0 ps k hkp)
      have HMT := Lib.hid (List.take_succ_eq_append_getElem hkp)
      generalize ps[k] = l at *
      have C1 := Lib.hid (fun (s : BitVec 32) w => fun h => sumAdd_any s (some ⟨w.heap.size, 0, none⟩) 1 1 [l] (w.alloc (.cells #[.string ⟨l.toArray⟩] 9)) (StrsAt.one w l _) (by decide) h)
      generalize adds 0 (ps.take k) = x at *
      generalize (ps.take k).flatten = u at *
      by_cases hbig : (200 : Int) < l.length
      · go_wp2_with (go_at_call 29; refine (awake16' _).mono ?_; rintro e w1 ⟨rfl, hb1⟩)
        go_ret
        exact ⟨rfl, nextB HB.out hb1⟩
      · go_wp2_with (go_at_call 30; refine (C1.out _ _ (by simp; omega)).mono ?_; rintro e w1 ⟨rfl, hb1⟩)
        refine ⟨⟨k + 1, by omega, by simp, ?_, ?_, Lib.hid ?_, Lib.hid (nextB HB.out (below_a1 hb1))⟩, by simp [intOf]; omega⟩
        · rw [HFT.out]
        · rw [HPT.out]; rfl
        · rw [HMT.out]
          intro p hp
          rcases List.mem_append.1 hp with hp | hp
          · exact HP.out p hp
          · obtain rfl : p = l := by simpa using hp
            omega
    · have h0 : ¬ (k : Int) < n := by omega
      have e0 : ps.take k = ps := List.take_of_length_le (by omega)
      rw [e0] at HP hfl ⊢
      have hS : StrsAt w (some ⟨b, off, none⟩) n ps := ⟨hn, .inr ⟨b, off, rfl, hb, hc.out⟩⟩
      have c1 := fun w' h => sumOf_any (some ⟨b, off, none⟩) n cap ps w' (hS.below h) (by omega) (fun p hp => by have := HP.out p hp; omega)
      have c2 := fun w => sumOf_any (some ⟨w.heap.size, 0, none⟩) 1 1 [ps.flatten] (w.alloc (.cells #[.string ⟨ps.flatten.toArray⟩] 9)) (StrsAt.one w ps.flatten _) (by decide) (by simp only [List.mem_singleton, forall_eq]; omega)
      have e2 : adds 0 [ps.flatten] = add 0 ps.flatten := rfl
      rw [e2, add_flatten] at c2
      generalize adds 0 ps = x at *
      generalize ps.flatten = u at *
      have C1 := Lib.hid c1
      have C2 := Lib.hid c2
      clear c1 c2 e2 hS
      go_wp2_with (first | (go_at_call 29; refine (awake16' _).mono ?_; rintro e w1 ⟨rfl, hb1⟩; have HB1 := Lib.hid (nextB HB.out hb1)) | (go_at_call 31; first | (refine (C1.out _ HB1.out).mono ?_; rintro e w2 ⟨rfl, hb2⟩) | (refine (C2.out _).mono ?_; rintro e w3 ⟨rfl, hb3⟩)))
      go_ret
      exact ⟨rfl, nextB (nextB HB1.out hb2) (below_a1 hb3)⟩

theorem walk_SumParts (w : World) (v : Value)
    (hv : ∃ (a : Option Addr) (n cap : Nat) (ps : List (List UInt8)), v = .slice a n cap ∧ StrsAt w a n ps ∧ n ≤ maxLen ∧ ∀ p ∈ ps, p.length ≤ maxLen) :
    Calls Try.prog 7 #[v] w fun e w' => e = .returned (.bool true) ∧ Below w.heap.size w w' := by
  obtain ⟨a, n, cap, ps, rfl, h, hm, hp⟩ := hv
  by_cases hn : (40 : Int) < n
  · exact parts_over a n cap w hn
  obtain ⟨hl, h⟩ := h
  rcases h with rfl | ⟨b, off, rfl, hb, hc⟩
  · exact parts_none a cap w
  · exact parts_in b off n cap ps w hb hl (by omega) (Lib.hid hc)
end Go.Proofs.Ytfbdgahbhlapmaa
