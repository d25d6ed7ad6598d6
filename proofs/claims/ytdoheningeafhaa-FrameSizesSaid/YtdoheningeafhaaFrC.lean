/- Layer 13 (frame): the walk of the statement FrameCuts. -/
import Derived.Test.YtdoheningeafhaaFrQ
namespace Go.Proofs.Ytdoheningeafhaa
open Go.RowKit
set_option linter.unusedVariables false
set_option linter.unusedSimpArgs false

set_option maxRecDepth 100000 in
theorem fcuts_over (v : Int) (f : Fr) (ct : Nat) (w : World) (h : (1000 : Int) < f.bo.length ∨ (100 : Int) < f.id.length) :
    Calls Try.prog 7 #[.int .i64 v, frV f, .int .u16 ct] w fun e w' => e = .returned (.bool true) ∧ Below w.heap.size w w' := by
  unfold frV frR
  by_cases h1 : (1000 : Int) < f.bo.length
  · go_enter Try.func7, Try.ntmps7
    go_wp2_with (go_at_call 26; refine (awake13' _).mono ?_; rintro e w1 ⟨rfl, hb1⟩)
    go_ret
    exact ⟨rfl, below_a1 hb1⟩
  · have h2 : (100 : Int) < f.id.length := h.resolve_left h1
    clear h
    go_enter Try.func7, Try.ntmps7
    go_wp2_with (go_at_call 26; refine (awake13' _).mono ?_; rintro e w1 ⟨rfl, hb1⟩)
    go_ret
    exact ⟨rfl, below_a1 hb1⟩

set_option maxHeartbeats 4000000 in
set_option maxRecDepth 100000 in
theorem fcuts_bad (v : Int) (id : List UInt8) (st fm gr : UInt8) (bo : List UInt8) (pl c : Int) (s : List UInt8) (ct : Nat) (w : World) (h1 : ¬ (1000 : Int) < bo.length) (h2 : ¬ (100 : Int) < id.length) (hc : c ≠ 0)
    (PR : Hid (∀ w, Calls Try.prog 39 #[.agg #[.string ⟨id.toArray⟩, .int .u8 st.toNat, .int .u8 fm.toNat, .int .u8 gr.toNat, .string ⟨bo.toArray⟩, .int .i64 pl], .int .i64 v] w fun e w' => e = .returned (.tuple #[.string ⟨s.toArray⟩, .agg #[.int .i64 c, .int .i64 0]]) ∧ Below w.heap.size w w')) :
    Calls Try.prog 7 #[.int .i64 v, .agg #[.string ⟨id.toArray⟩, .int .u8 st.toNat, .int .u8 fm.toNat, .int .u8 gr.toNat, .string ⟨bo.toArray⟩, .int .i64 pl], .int .u16 ct] w fun e w' => e = .returned (.bool true) ∧ Below w.heap.size w w' := by
  have BD := Lib.hid (fun w => bad_any c 0 w)
  rw [show (c != 0) = true by simpa using hc] at BD
  clear hc
  go_enter Try.func7, Try.ntmps7
  go_wp2_with (first | (go_at_call 39; (with_reducible refine (PR.out _).mono ?_); rintro e w1 ⟨rfl, hb1⟩; have K := Lib.hid (below_a1 hb1); clear hb1) | (go_at_call 21; (with_reducible refine (BD.out _).mono ?_); rintro e w2 ⟨rfl, hb2⟩; replace K := Lib.hid (nextB K.out (below_a1 hb2)); clear hb2) | (go_at_call 26; (with_reducible refine (awake13' _).mono ?_); rintro e w3 ⟨rfl, hb3⟩; replace K := Lib.hid (nextB K.out (hb3)); clear hb3))
  go_ret
  exact ⟨rfl, K.out⟩

set_option maxHeartbeats 4000000 in
set_option maxRecDepth 100000 in
theorem fcuts_in (v : Int) (id : List UInt8) (st fm gr : UInt8) (bo : List UInt8) (pl : Int) (s : List UInt8) (ct q : Nat) (w : World) (h1 : ¬ (1000 : Int) < bo.length) (h2 : ¬ (100 : Int) < id.length) (hct : ct < 65536)
    (hs0 : 0 < s.length) (hs1 : s.length ≤ 5000) (HQ : Hid (q = ct % s.length)) (hq : q < s.length)
    (PR : Hid (∀ w, Calls Try.prog 39 #[.agg #[.string ⟨id.toArray⟩, .int .u8 st.toNat, .int .u8 fm.toNat, .int .u8 gr.toNat, .string ⟨bo.toArray⟩, .int .i64 pl], .int .i64 v] w fun e w' => e = .returned (.tuple #[.string ⟨s.toArray⟩, .agg #[.int .i64 0, .int .i64 0]]) ∧ Below w.heap.size w w'))
    (m' : Rd) (PP : Hid (∀ b w, RdAt w b (Rd.new (s.take q) 7) → Calls Try.prog 44 #[.int .i64 v, .pointer (some ⟨b, 0, none⟩), .bool false] w fun e w' => e = .returned (.tuple #[.agg #[.string ⟨#[]⟩, .int .u8 0, .int .u8 0, .int .u8 0, .string ⟨#[]⟩, .int .i64 0], .bool false]) ∧ RdAt w' b m' ∧ Only b w w'))
    (hm : (q = 0 ∧ m'.cd = 0) ∨ (0 < q ∧ m'.cd = 1 ∧ m'.pl = 7 + (q : Int))) :
    Calls Try.prog 7 #[.int .i64 v, .agg #[.string ⟨id.toArray⟩, .int .u8 st.toNat, .int .u8 fm.toNat, .int .u8 gr.toNat, .string ⟨bo.toArray⟩, .int .i64 pl], .int .u16 ct] w fun e w' => e = .returned (.bool true) ∧ Below w.heap.size w w' := by
  have BD := Lib.hid (fun w => bad_any 0 0 w)
  rw [show ((0 : Int) != 0) = false by rfl] at BD
  have FA := Lib.hid (fun b w h => fault_any b m' w h)
  have IN := Lib.hid (fun w => inner_any (s.take q) 7 w)
  have HMOD := Lib.hid (show (ct : Int) % (s.length : Int) = (q : Int) by rw [HQ.out]; exact (Int.natCast_emod ct s.length).symm)
  have hE : s.isEmpty = false := by cases s; simp at hs0; rfl
  have hE2 : (s.isEmpty = true) = False := by rw [hE]; simp
  have hct' : (ct : Int) ≤ 65535 := by omega
  have hs2 : (1 : Int) ≤ (s.length : Int) := by omega
  have hq2 : (q : Int) ≤ s.length := by omega
  have hq3 : q ≤ s.length := by omega
  have HM := Lib.hid hm
  clear hm HQ
  go_enter Try.func7, Try.ntmps7
  go_upto_region 9 with (first | (go_at_call 39; (with_reducible refine (PR.out _).mono ?_); rintro e w1 ⟨rfl, hb1⟩; have K := Lib.hid (below_a1 hb1); clear hb1) | (go_at_call 21; (with_reducible refine (BD.out _).mono ?_); rintro e w2 ⟨rfl, hb2⟩; replace K := Lib.hid (nextB K.out (below_a1 hb2)); clear hb2))
  rw [HMOD.out]
  clear HMOD BD PR
  have hk := K.out.size
  go_upto_region 11 with (first | (go_at_call 47; (with_reducible refine (IN.out _).mono ?_); rintro e w3 ⟨rfl, hr3, hb3⟩; have R := Lib.hid hr3; replace K := Lib.hid (nextB K.out (hb3)); clear hb3; clear hr3) | (go_at_call 44; (with_reducible refine (PP.out _ _ R.out).mono ?_); rintro e w4 ⟨rfl, hr4, ho4⟩; replace K := Lib.hid (onlyB K.out ho4 (by omega)); clear ho4; replace R := Lib.hid hr4; clear hr4))
  rcases HM.out with ⟨hz, hcd⟩ | ⟨hz, hcd, hpl⟩
  · rw [hcd] at FA
    have BD := Lib.hid (fun p w => bad_any 0 p w)
    rw [show ((0 : Int) != 0) = false by rfl] at BD
    have t1 : ¬ (0 : Int) < (q : Int) := by omega
    have t1n : ¬ 0 < q := by omega
    have t2 : ((q : Int) == 0) = true := by simpa using hz
    clear HM hcd hz
    go_wp2_with (first | (go_at_call 26; (with_reducible refine (awake13' _).mono ?_); rintro e w5 ⟨rfl, hb5⟩; replace R := Lib.hid (R.out.below (below_a1 hb5)); replace K := Lib.hid (nextB K.out (below_a1 hb5)); clear hb5) | (go_at_call 48; (with_reducible refine (FA.out _ _ R.out).mono ?_); rintro e w6 ⟨rfl, hb6⟩; replace R := Lib.hid (R.out.below (hb6)); replace K := Lib.hid (nextB K.out (hb6)); clear hb6) | (go_at_call 21; (with_reducible refine (BD.out _ _).mono ?_); rintro e w7 ⟨rfl, hb7⟩; replace R := Lib.hid (R.out.below (hb7)); replace K := Lib.hid (nextB K.out (hb7)); clear hb7))
    go_ret
    exact ⟨rfl, K.out⟩
  · rw [hcd, hpl] at FA
    have BD := Lib.hid (fun p w => bad_any 1 p w)
    rw [show ((1 : Int) != 0) = true by rfl] at BD
    have t1 : (0 : Int) < (q : Int) := by omega
    have t2 : ((q : Int) == 0) = false := by simp; omega
    clear HM hcd hpl
    go_wp2_with (first | (go_at_call 26; (with_reducible refine (awake13' _).mono ?_); rintro e w5 ⟨rfl, hb5⟩; replace R := Lib.hid (R.out.below (below_a1 hb5)); replace K := Lib.hid (nextB K.out (below_a1 hb5)); clear hb5) | (go_at_call 48; (with_reducible refine (FA.out _ _ R.out).mono ?_); rintro e w6 ⟨rfl, hb6⟩; replace R := Lib.hid (R.out.below (hb6)); replace K := Lib.hid (nextB K.out (hb6)); clear hb6) | (go_at_call 21; (with_reducible refine (BD.out _ _).mono ?_); rintro e w7 ⟨rfl, hb7⟩; replace R := Lib.hid (R.out.below (hb7)); replace K := Lib.hid (nextB K.out (hb7)); clear hb7))
    go_ret
    exact ⟨rfl, K.out⟩
theorem wf_u16 {k : Int} (h : (Lit.int .u16 k).wf = true) : ∃ c : Nat, k = c ∧ c < 65536 := by
  have h2 : 0 ≤ k ∧ k < 65536 := by
    simp [Lit.wf, IntKind.bits, IntKind.signed, IntKind.min, IntKind.max] at h
    omega
  exact ⟨k.toNat, by omega, by omega⟩
theorem frParse_none (v : Int) (sp : Bool) (m : Rd) (h : m.left = 0) : frParse v sp m = (m, zeroF, false) := by
  unfold frParse
  rw [if_pos (.inr (.inr (.inl h)))]
theorem walk_FrameCuts (w : World) (v : Int) (hv : (Lit.int .i64 v).wf = true) (fv : Value) (hf : ∃ f : Fr, fv = frV f ∧ f.id.length ≤ maxLen ∧ f.bo.length ≤ maxLen) (k : Int) (hk : (Lit.int .u16 k).wf = true) :
    Calls Try.prog 7 #[.int .i64 v, fv, .int .u16 k] w fun e w' => e = .returned (.bool true) ∧ Below w.heap.size w w' := by
  obtain ⟨f, rfl, _, _⟩ := hf
  obtain ⟨ct, rfl, hct⟩ := wf_u16 hk
  by_cases h1 : (1000 : Int) < f.bo.length
  · exact fcuts_over v f ct w (.inl h1)
  by_cases h2 : (100 : Int) < f.id.length
  · exact fcuts_over v f ct w (.inr h2)
  have PR := Lib.hid (fun w => fprint_any v f w (by omega) (by omega))
  by_cases hc : checkF v f = 0
  rotate_left
  · exact fcuts_bad v f.id f.st f.fm f.gr f.bo f.pl (checkF v f) _ ct w h1 h2 hc PR
  rw [hc, if_pos rfl] at PR
  obtain ⟨c0, t0, hct0, _⟩ := print_head v f hc
  have hpos : 0 < (printF v f).length := by rw [hct0]; simp
  have hle := print_len_le v f (named_pos (checkF_ok hc).1).2.1
  have hq := Nat.mod_lt ct hpos
  generalize hqe : ct % (printF v f).length = q at *
  have htl : ((printF v f).take q).length = q := by rw [List.length_take]; omega
  have R0 : Run (Rd.new ((printF v f).take q) 7) ((printF v f).take q) := Run.new _ _
  have PP0 := fun b w h => fparse_any v false b (Rd.new ((printF v f).take q) 7) w h (new_ok _ 7 (by omega) (by decide)) (show max (7 : Int) 0 ≤ _ by decide)
  by_cases hz : q = 0
  · have hp : frParse v false (Rd.new ((printF v f).take q) 7) = (_, zeroF, false) := frParse_none v false _ (by rw [R0.left, htl, hz]; rfl)
    rw [hp] at PP0
    exact fcuts_in v f.id f.st f.fm f.gr f.bo f.pl (printF v f) ct q w h1 h2 hct hpos (by omega) (Lib.hid hqe.symm) hq PR _ (Lib.hid PP0) (.inl ⟨hz, rfl⟩)
  · obtain ⟨m', hp, hfell⟩ := frParse_cut v false f (Rd.new ((printF v f).take q) 7) ((printF v f).take q) ((printF v f).drop q) hc (by omega) R0 (by intro e; rw [e] at htl; simp at htl; omega) (by rw [List.length_drop]; omega) (List.take_append_drop q _)
    rw [hp] at PP0
    refine fcuts_in v f.id f.st f.fm f.gr f.bo f.pl (printF v f) ct q w h1 h2 hct hpos (by omega) (Lib.hid hqe.symm) hq PR m' (Lib.hid PP0) (.inr ⟨by omega, hfell.1, ?_⟩)
    rw [hfell.2.1]
    show max (7 : Int) 0 + (((printF v f).take q).length : Int) = _
    rw [htl]
    rfl
end Go.Proofs.Ytdoheningeafhaa
