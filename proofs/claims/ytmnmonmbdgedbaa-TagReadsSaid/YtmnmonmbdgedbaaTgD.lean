/- Layer 15 (tag): the document's Check, walked. -/
import Derived.Test.YtmnmonmbdgedbaaTgU
import Derived.Test.YtmnmonmbdgedbaaFr13
namespace Go.Proofs.Ytmnmonmbdgedbaa
open Go.RowKit
set_option linter.unusedVariables false
set_option linter.unusedSimpArgs false

/-- has a version's flags another bit? -/
def oddB (v : Int) (fl : UInt8) : Bool := if v = 2 then ((fl.toNat : Int) % 64 != 0) else if v = 3 then ((fl.toNat : Int) % 32 != 0) else ((fl.toNat : Int) % 16 != 0)
set_option maxRecDepth 100000 in
theorem odd_any (v : Int) (fl : UInt8) (w : World) : Calls Try.prog 72 #[.int .i64 v, .int .i64 fl.toNat] w fun e w' => e = .returned (.bool (oddB v fl)) ∧ w = w' := by
  have b1 := byte_le fl
  unfold oddB
  by_cases h2 : v = 2
  · rw [if_pos h2]
    have t2 : (v == 2) = true := by simpa using h2
    clear h2
    go_enter Try.func72, Try.ntmps72
    go_wp2
    go_ret
    exact ⟨rfl, rfl⟩
  · rw [if_neg h2]
    have t2 : (v == 2) = false := by simpa using h2
    by_cases h3 : v = 3
    · rw [if_pos h3]
      have t3 : (v == 3) = true := by simpa using h3
      clear h3 h2
      go_enter Try.func72, Try.ntmps72
      go_wp2
      go_ret
      exact ⟨rfl, rfl⟩
    · rw [if_neg h3]
      have t3 : (v == 3) = false := by simpa using h3
      clear h3 h2
      go_enter Try.func72, Try.ntmps72
      go_wp2
      go_ret
      exact ⟨rfl, rfl⟩
set_option maxRecDepth 100000 in
theorem odd_facts : ∀ n : Nat, n < 256 → ((((n : Nat) : Int) % 64 != 0) || (((n / 64 % 2 : Nat) : Int) == 1)) = (((n &&& (255 - (192 - (192 &&& 64))) : Nat) : Int) != 0) ∧
    ((((n : Nat) : Int) % 32 != 0) || (((n / 64 % 2 : Nat) : Int) == 1)) = (((n &&& (255 - (224 - (224 &&& 64))) : Nat) : Int) != 0) ∧
    ((((n : Nat) : Int) % 16 != 0) || (((n / 64 % 2 : Nat) : Int) == 1)) = (((n &&& (255 - (240 - (240 &&& 64))) : Nat) : Int) != 0) := by decide
theorem odd_bad {v : Int} {fl : UInt8} (hv : letters v ≠ 0) : (oddB v fl || bt fl 64) = anB fl (allowN v - (allowN v &&& 64)) := by
  obtain ⟨h2, h3, h4⟩ := odd_facts fl.toNat (UInt8.toNat_lt fl)
  unfold oddB bt anB
  rcases letters_of hv with rfl | rfl | rfl
  · exact h2
  · exact h3
  · exact h4
def RCk (c : Int × Int) (w : World) (e : Ending) (w' : World) : Prop := e = .returned (.tuple #[.int .i64 c.1, .int .i64 c.2]) ∧ Below w.heap.size w w'
set_option maxHeartbeats 4000000 in
set_option maxRecDepth 100000 in
theorem rtcheck_badh (v : Int) (rv fl : UInt8) (a : Option Addr) (n cap : Nat) (w : World) (hb : badH v rv fl = true) :
    Calls Try.prog 29 #[.agg #[.int .i64 v, .int .i64 rv.toNat, .int .i64 fl.toNat, .slice a n cap]] w (RCk (5, 0) w) := by
  have OD := Lib.hid (fun w => odd_any v fl w)
  have BT := Lib.hid (fun w => bit_any fl 64 w (by decide) (by decide))
  have e64 : (((64 : Nat) : Int)) = 64 := rfl
  rw [e64] at BT
  clear e64
  unfold RCk
  by_cases h2 : v < 2
  · clear hb
    go_enter Try.func29, Try.ntmps29
    go_wp2
    go_ret2
    exact ⟨rfl, (Below.refl _ _).alloc (Nat.le_refl _) _⟩
  by_cases h4 : 4 < v
  · clear hb
    go_enter Try.func29, Try.ntmps29
    go_wp2
    go_ret2
    exact ⟨rfl, (Below.refl _ _).alloc (Nat.le_refl _) _⟩
  have hl : letters v ≠ 0 := by
    have : v = 2 ∨ v = 3 ∨ v = 4 := by omega
    rcases this with rfl | rfl | rfl <;> decide
  have hbad := odd_bad (fl := fl) hl
  unfold badH at hb
  rw [decide_eq_false hl, Bool.false_or, ← hbad] at hb
  clear hl hbad
  rcases hr : ((rv.toNat : Int) == 255) with _ | _
  rotate_left
  · clear hb
    go_enter Try.func29, Try.ntmps29
    go_wp2
    go_ret2
    exact ⟨rfl, (Below.refl _ _).alloc (Nat.le_refl _) _⟩
  rw [hr, Bool.false_or] at hb
  generalize oddB v fl = o at *
  generalize bt fl 64 = b at *
  rcases o with _ | _
  · rw [Bool.false_or] at hb
    subst hb
    go_enter Try.func29, Try.ntmps29
    go_wp2_with (first | (go_at_call 72; (with_reducible refine (OD.out _).mono ?_); rintro e wx ⟨rfl, rfl⟩) | (go_at_call 28; (with_reducible refine (BT.out _).mono ?_); rintro e wx ⟨rfl, rfl⟩))
    go_ret2
    exact ⟨rfl, (Below.refl _ _).alloc (Nat.le_refl _) _⟩
  · clear hb
    go_enter Try.func29, Try.ntmps29
    go_wp2_with (first | (go_at_call 72; (with_reducible refine (OD.out _).mono ?_); rintro e wx ⟨rfl, rfl⟩) | (go_at_call 28; (with_reducible refine (BT.out _).mono ?_); rintro e wx ⟨rfl, rfl⟩))
    go_ret2
    exact ⟨rfl, (Below.refl _ _).alloc (Nat.le_refl _) _⟩
set_option maxRecDepth 100000 in
theorem bt_tb_facts : ∀ n : Nat, n < 256 → (((n / 128 % 2 : Nat) : Int) == 1) = (((n &&& 128 : Nat) : Int) != 0) ∧ (((n / 64 % 2 : Nat) : Int) == 1) = (((n &&& 64 : Nat) : Int) != 0) ∧ (((n / 16 % 2 : Nat) : Int) == 1) = (((n &&& 16 : Nat) : Int) != 0) ∧ (((n / 2 % 2 : Nat) : Int) == 1) = (((n &&& 2 : Nat) : Int) != 0) := by decide
theorem bt_tb (c : UInt8) : bt c 128 = tb c 128 ∧ bt c 64 = tb c 64 ∧ bt c 16 = tb c 16 ∧ bt c 2 = tb c 2 := bt_tb_facts c.toNat (UInt8.toNat_lt c)
set_option maxHeartbeats 8000000 in
set_option maxRecDepth 100000 in
theorem rtcheck_in (v : Int) (rv fl : UInt8) (a : Option Addr) (n cap : Nat) (fs : List Fr) (res : Int × Int) (w : World) (hs : Hid (RecsAt w a n 6 (fs.map rfR))) (hn : n ≤ 1000000000) (hp : Hid (∀ f ∈ fs, f.id.length ≤ 1000000000))
    (hb : badH v rv fl = false) (HR : Hid (res = if firstBad v fl fs < fs.length then (5, ((firstBad v fl fs : Nat) : Int)) else if 4096 < fs.length then (4, 4096) else (0, 0))) :
    Calls Try.prog 29 #[.agg #[.int .i64 v, .int .i64 rv.toNat, .int .i64 fl.toNat, .slice a n cap]] w (RCk res w) := by
  have OD := Lib.hid (fun w => odd_any v fl w)
  have BT := Lib.hid (fun w => bit_any fl 64 w (by decide) (by decide))
  have BS := Lib.hid (fun w => bit_any fl 128 w (by decide) (by decide))
  have B2 := Lib.hid (fun (c : UInt8) w => bit_any c 2 w (by decide) (by decide))
  have e64 : (((64 : Nat) : Int)) = 64 := rfl
  have e128 : (((128 : Nat) : Int)) = 128 := rfl
  have e2 : (((2 : Nat) : Int)) = 2 := rfl
  rw [e64] at BT
  rw [e128, (bt_tb fl).1] at BS
  simp only [e2, fun c => (bt_tb c).2.2.2] at B2
  clear e64 e128 e2
  obtain ⟨hv, _, _⟩ := badH_ok hb
  have h2 : ¬ v < 2 := by omega
  have h4 : ¬ 4 < v := by omega
  have hl : letters v ≠ 0 := (bad_h_not hb).1
  have hr := (bad_h_not hb).2.1
  have hbad := odd_bad (fl := fl) hl
  unfold badH at hb
  rw [decide_eq_false hl, Bool.false_or, ← hbad, hr, Bool.false_or, Bool.or_eq_false_iff] at hb
  obtain ⟨ho, hb6⟩ := hb
  rw [ho] at OD
  rw [hb6] at BT
  clear hl hbad hv ho hb6
  have HL : Hid (fs.length = n) := Lib.hid (by simpa using hs.out.1)
  have hni : (n : Int) ≤ 1000000000 := by omega
  unfold RCk
  go_enter Try.func29, Try.ntmps29
  go_upto_region 4 with (first | (go_at_call 72; (with_reducible refine (OD.out _).mono ?_); rintro e wx ⟨rfl, rfl⟩) | (go_at_call 28; (with_reducible refine (BT.out _).mono ?_); rintro e wx ⟨rfl, rfl⟩))
  clear OD BT hr h2 h4
  have X := Lib.hid (at_a0 w #[.int .i64 v, .int .i64 rv.toNat, .int .i64 fl.toNat, .slice a n cap] 40)
  have K : Hid (Below w.heap.size w (w.alloc (.cells #[.int .i64 v, .int .i64 rv.toNat, .int .i64 fl.toNat, .slice a n cap] 40))) := Lib.hid ((Below.refl _ _).alloc (Nat.le_refl _) _)
  have HS := Lib.hid (hs.out.below K.out)
  clear hs
  generalize w.alloc (.cells #[.int .i64 v, .int .i64 rv.toNat, .int .i64 fl.toNat, .slice a n cap] 40) = w0 at *
  go_wp2
  go_loopw [4] (fun i wr => ∃ (j : Nat), j ≤ n ∧ i = .int .i64 j ∧ Hid (∀ x ∈ fs.take j, badIn v fl x = false) ∧ Hid (Below w0.heap.size w0 wr)) (fun i _ => n - (intOf i).toNat)
  case atStart => exact ⟨0, by omega, rfl, Lib.hid (by simp), Lib.hid (Below.refl _ _)⟩
  case round =>
    obtain ⟨j, hj, rfl, HG, HB⟩ := hrel
    replace X := Lib.hid (block_below X.out HB.out)
    replace HS := Lib.hid (HS.out.below HB.out)
    replace K := Lib.hid (nextB K.out HB.out)
    have hxw := (Array.getElem?_eq_some_iff.1 X.out).1
    obtain ⟨x0, x1, x2, x3⟩ := cells4 (X.out)
    by_cases hlt : j < n
    · have g0 : (j : Int) < n := by omega
      have hjl : j < fs.length := by rw [HL.out]; exact hlt
      obtain ⟨b, off, rfl, hbb, c0, c1, c2, c3, c4, c5⟩ := rfs_cells HS.out j hjl
      have hid := hp.out _ (List.getElem_mem hjl)
      have HN1 := Lib.hid (fun h => take_all_snoc (P := fun x => badIn v fl x = false) hjl HG.out h)
      have HN2 := Lib.hid (fun h => findIdx_of (p := badIn v fl) hjl HG.out h)
      have CK := Lib.hid (fun w => rcheck_any v fs[j] w hid)
      clear hid HG
      unfold RCheck rfV at CK
      generalize fs[j] = f at *
      have HBI := Lib.hid (show badIn v fl f = (decide (checkF v f ≠ 0) || (decide (v = 4) && tb fl 128 && !tb f.fm 2)) from rfl)
      have HJL := Lib.hid hjl
      clear hjl
      have B2f := Lib.hid (fun w => B2.out f.fm w)
      have hc5 : checkF v f = 0 ∨ checkF v f = 5 := by unfold checkF; split; exact .inl rfl; exact .inr rfl
      have HFF : Hid (firstBad v fl fs = fs.findIdx (badIn v fl)) := Lib.hid rfl
      generalize checkF v f = c at *
      generalize tb fl 128 = sb at *
      generalize tb f.fm 2 = ub at *
      have key : Hid ((c = 5 ∨ (c = 0 ∧ v = 4 ∧ sb = true ∧ ub = false)) → res = (5, (j : Int))) := Lib.hid (fun h => by
        have h1 := HN2.out (by rw [HBI.out]; rcases h with rfl | ⟨rfl, rfl, rfl, rfl⟩ <;> simp)
        rw [HR.out, HFF.out, h1, if_pos HJL.out])
      have key2 : Hid ((c = 0 ∧ (v ≠ 4 ∨ sb = false ∨ ub = true)) → ∀ x ∈ fs.take (j + 1), badIn v fl x = false) := Lib.hid (fun h => HN1.out (by rw [HBI.out]; obtain ⟨rfl, h | rfl | rfl⟩ := h <;> simp [*]))
      clear HN1 HN2 HBI HJL
      rcases hc5 with rfl | rfl
      rotate_left
      · have HR2 := Lib.hid (key.out (.inl rfl))
        go_wp2_with (first | (go_at_call 73; (with_reducible refine (CK.out _).mono ?_); rintro e w1 ⟨rfl, hb1⟩; replace X := Lib.hid (block_below X.out (below_a1 hb1)); replace K := Lib.hid (nextB K.out (below_a1 hb1)); clear hb1; obtain ⟨y0, y1, y2, y3⟩ := cells4 (X.out)))
        go_ret2
        exact ⟨by rw [HR2.out]; rfl, K.out⟩
      · by_cases h4 : v = 4
        · have t4 : (v == 4) = true := by simpa using h4
          rcases sb with _ | _
          · have HN := Lib.hid (key2.out ⟨rfl, .inr (.inl rfl)⟩)
            clear h4 key key2
            go_wp2_with (first | (go_at_call 73; (with_reducible refine (CK.out _).mono ?_); rintro e w1 ⟨rfl, hb1⟩; have KB := Lib.hid (nextB HB.out (below_a1 hb1)); replace X := Lib.hid (block_below X.out (below_a1 hb1)); replace K := Lib.hid (nextB K.out (below_a1 hb1)); clear hb1; obtain ⟨y0, y1, y2, y3⟩ := cells4 (X.out)) | (go_at_call 28; (with_reducible refine (BS.out _).mono ?_); rintro e wx ⟨rfl, rfl⟩))
            refine ⟨⟨j + 1, by omega, by simp, HN, KB⟩, by simp [intOf]; omega⟩
          · rcases ub with _ | _
            · have HR2 := Lib.hid (key.out (.inr ⟨rfl, h4, rfl, rfl⟩))
              clear h4 key key2
              go_wp2_with (first | (go_at_call 73; (with_reducible refine (CK.out _).mono ?_); rintro e w1 ⟨rfl, hb1⟩; have Y := Lib.hid (block_below (at_a0 wr #[.string ⟨f.id.toArray⟩, .int .i64 f.st.toNat, .int .i64 f.fm.toNat, .int .i64 f.gr.toNat, .string ⟨f.bo.toArray⟩, .int .i64 f.pl] 100) hb1); replace X := Lib.hid (block_below X.out (below_a1 hb1)); replace K := Lib.hid (nextB K.out (below_a1 hb1)); clear hb1; obtain ⟨y0, y1, y2, y3⟩ := cells4 (X.out); obtain ⟨g0, g1, g2, g3, g4, g5⟩ := cells6 (Y.out)) | (go_at_call 28; (with_reducible refine (BS.out _).mono ?_); rintro e wx ⟨rfl, rfl⟩) | (go_at_call 28; (with_reducible refine (B2f.out _).mono ?_); rintro e wx ⟨rfl, rfl⟩))
              go_ret2
              exact ⟨by rw [HR2.out]; rfl, K.out⟩
            · have HN := Lib.hid (key2.out ⟨rfl, .inr (.inr rfl)⟩)
              clear h4 key key2
              go_wp2_with (first | (go_at_call 73; (with_reducible refine (CK.out _).mono ?_); rintro e w1 ⟨rfl, hb1⟩; have Y := Lib.hid (block_below (at_a0 wr #[.string ⟨f.id.toArray⟩, .int .i64 f.st.toNat, .int .i64 f.fm.toNat, .int .i64 f.gr.toNat, .string ⟨f.bo.toArray⟩, .int .i64 f.pl] 100) hb1); have KB := Lib.hid (nextB HB.out (below_a1 hb1)); replace X := Lib.hid (block_below X.out (below_a1 hb1)); replace K := Lib.hid (nextB K.out (below_a1 hb1)); clear hb1; obtain ⟨y0, y1, y2, y3⟩ := cells4 (X.out); obtain ⟨g0, g1, g2, g3, g4, g5⟩ := cells6 (Y.out)) | (go_at_call 28; (with_reducible refine (BS.out _).mono ?_); rintro e wx ⟨rfl, rfl⟩) | (go_at_call 28; (with_reducible refine (B2f.out _).mono ?_); rintro e wx ⟨rfl, rfl⟩))
              refine ⟨⟨j + 1, by omega, by simp, HN, KB⟩, by simp [intOf]; omega⟩
        · have t4 : (v == 4) = false := by simpa using h4
          have HN := Lib.hid (key2.out ⟨rfl, .inl h4⟩)
          clear h4 key key2
          go_wp2_with (first | (go_at_call 73; (with_reducible refine (CK.out _).mono ?_); rintro e w1 ⟨rfl, hb1⟩; have KB := Lib.hid (nextB HB.out (below_a1 hb1)); replace X := Lib.hid (block_below X.out (below_a1 hb1)); replace K := Lib.hid (nextB K.out (below_a1 hb1)); clear hb1; obtain ⟨y0, y1, y2, y3⟩ := cells4 (X.out)))
          refine ⟨⟨j + 1, by omega, by simp, HN, KB⟩, by simp [intOf]; omega⟩
    · have g0 : ¬ (j : Int) < n := by omega
      have hjn : j = n := by omega
      subst hjn
      have HR2 : Hid (res = if 4096 < j then (4, 4096) else (0, 0)) := Lib.hid (by
        have e0 : fs.take j = fs := List.take_of_length_le (by rw [HL.out]; exact Nat.le_refl _)
        have HG1 := HG.out
        rw [e0] at HG1
        have h1 : firstBad v fl fs = fs.length := findIdx_none HG1
        rw [HR.out, h1, if_neg (by omega), HL.out])
      by_cases hbig : (4096 : Int) < j
      · go_wp2
        go_ret2
        exact ⟨by rw [HR2.out, if_pos (by omega)]; rfl, K.out⟩
      · go_wp2
        go_ret2
        exact ⟨by rw [HR2.out, if_neg (by omega)]; rfl, K.out⟩
theorem rtcheck_any (t : Tg) (a : Option Addr) (n cap : Nat) (w : World) (hs : RecsAt w a n 6 (t.fs.map rfR)) (hn : n ≤ 1000000000) (hp : ∀ f ∈ t.fs, f.id.length ≤ 1000000000) :
    Calls Try.prog 29 #[.agg #[.int .i64 t.v, .int .i64 t.rv.toNat, .int .i64 t.fl.toNat, .slice a n cap]] w (RCk (checkT t) w) := by
  unfold checkT
  rcases hb : badH t.v t.rv t.fl with _ | _
  · exact rtcheck_in t.v t.rv t.fl a n cap t.fs _ w (Lib.hid hs) hn (Lib.hid hp) hb (Lib.hid rfl)
  · exact rtcheck_badh t.v t.rv t.fl a n cap w hb
end Go.Proofs.Ytmnmonmbdgedbaa
