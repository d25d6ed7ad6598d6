/- Layer 15 (tag): body, walked. -/
import Derived.Test.YtmnmonmbdgedbaaTg2
namespace Go.Proofs.Ytmnmonmbdgedbaa
open Go.RowKit
set_option linter.unusedVariables false
set_option linter.unusedSimpArgs false

/-- frames' bytes, one behind the other -/
def bodyL (v : Int) (fs : List Fr) : List UInt8 := (fs.map (printF v)).flatten
def bodyT (v : Int) (fl : UInt8) (fs : List Fr) : List UInt8 := if wholeB v fl = true then sndPut (bodyL v fs) else bodyL v fs
theorem bodyL_snoc (v : Int) (fs : List Fr) (f : Fr) : bodyL v (fs ++ [f]) = bodyL v fs ++ printF v f := by simp [bodyL]
theorem bodyL_append (v : Int) (a b : List Fr) : bodyL v (a ++ b) = bodyL v a ++ bodyL v b := by simp [bodyL]
theorem bodyL_take_le (v : Int) (fs : List Fr) (j : Nat) : (bodyL v (fs.take j)).length ≤ (bodyL v fs).length := by
  have h := bodyL_append v (fs.take j) (fs.drop j)
  rw [List.take_append_drop] at h
  rw [h, List.length_append]
  omega
/-- frames that may be printed, and aren't too large -/
def Fit (v : Int) (f : Fr) : Prop := checkF v f = 0 ∧ f.bo.length ≤ 1000000
def BodySays (s : List UInt8) (w : World) (e : Ending) (w' : World) : Prop := e = .returned (.tuple #[.string ⟨s.toArray⟩, .agg #[.int .i64 0, .int .i64 0]]) ∧ Below w.heap.size w w'
set_option maxHeartbeats 8000000 in
set_option maxRecDepth 100000 in
theorem tbody_in (v : Int) (rv fl : UInt8) (a : Option Addr) (n cap : Nat) (fs : List Fr) (w : World) (hs : Hid (RecsAt w a n 6 (fs.map frR))) (hn : n ≤ 100000) (hp : Hid (∀ f ∈ fs, Fit v f)) (hlen : (bodyL v fs).length ≤ 100000000) :
    Calls Try.prog 48 #[.agg #[.int .i64 v, .int .u8 rv.toNat, .int .u8 fl.toNat, .slice a n cap]] w (BodySays (bodyT v fl fs) w) := by
  have WH := Lib.hid (fun w => whole_any v rv fl w)
  have BD := Lib.hid (fun w => bad_any 0 0 w)
  rw [show ((0 : Int) != 0) = false by rfl] at BD
  have HL : Hid (fs.length = n) := Lib.hid (by simpa using hs.out.1)
  have hni : (n : Int) ≤ 100000 := by omega
  have HE := Lib.hid (rfl : bodyT v fl fs = bodyT v fl fs)
  obtain ⟨res, hres⟩ : ∃ r, r = bodyT v fl fs := ⟨_, rfl⟩
  rw [← hres]
  have HRES := Lib.hid hres
  clear hres HE
  unfold BodySays
  go_enter Try.func48, Try.ntmps48
  go_upto_region 3 with (fail)
  have X := Lib.hid (at_a1 w #[.int .i64 v, .int .u8 rv.toNat, .int .u8 fl.toNat, .slice a n cap] 26 (.cells #[.int .i64 0, .int .i64 0] 31))
  have F := Lib.hid (at_a2 w #[.int .i64 0, .int .i64 0] 31 (.cells #[.int .i64 v, .int .u8 rv.toNat, .int .u8 fl.toNat, .slice a n cap] 26))
  have K : Hid (Below w.heap.size w ((w.alloc (.cells #[.int .i64 v, .int .u8 rv.toNat, .int .u8 fl.toNat, .slice a n cap] 26)).alloc (.cells #[.int .i64 0, .int .i64 0] 31))) := Lib.hid (((Below.refl _ _).alloc (Nat.le_refl _) _).alloc (by simp) _)
  have HS := Lib.hid (hs.out.below K.out)
  obtain ⟨R, hR⟩ : ∃ R, R = w.heap.size := ⟨_, rfl⟩
  have hsz : ((w.alloc (.cells #[.int .i64 v, .int .u8 rv.toNat, .int .u8 fl.toNat, .slice a n cap] 26)).alloc (.cells #[.int .i64 0, .int .i64 0] 31)).heap.size = R + 2 := by rw [hR]; simp
  rw [← hR] at X F
  rw [← hR]
  have HRR := Lib.hid hR
  clear hR hs
  generalize (w.alloc (.cells #[.int .i64 v, .int .u8 rv.toNat, .int .u8 fl.toNat, .slice a n cap] 26)).alloc (.cells #[.int .i64 0, .int .i64 0] 31) = w0 at *
  have P0 : Hid (PT w w0 R #[.int .i64 v, .int .u8 rv.toNat, .int .u8 fl.toNat, .slice a n cap] 26 (R + 1) #[.int .i64 0, .int .i64 0] 31 (R + 2) (.slice none 0 0) []) := Lib.hid ⟨X.out, F.out, K.out, by omega, Recs.nil _ _ _ _⟩
  have B0 : Hid (Below w0.heap.size w0 w0) := Lib.hid (Below.refl _ _)
  have hW0 : Hid (w0.heap.size = R + 2) := Lib.hid hsz
  clear hsz
  obtain ⟨x0, x1, x2, x3⟩ := cells4 (X.out)
  go_wp2
  clear x0 x1 x2 x3 X F K
  go_loopw [4, 5, 15] (fun pv mn i wr => ∃ (j : Nat), j ≤ n ∧ i = .int .i64 j ∧ mn = .int .i64 ((bodyL v (fs.take j)).length : Nat) ∧ Hid (PT w wr R #[.int .i64 v, .int .u8 rv.toNat, .int .u8 fl.toNat, .slice a n cap] 26 (R + 1) #[.int .i64 0, .int .i64 0] 31 (R + 2) pv ((fs.take j).map (printF v))) ∧ Hid (Below (R + 2) w0 wr)) (fun _ _ i _ => n - (intOf i).toNat)
  case atStart => exact ⟨0, by omega, rfl, by simp [bodyL], by simpa using P0, by rw [← hW0.out]; exact B0⟩
  case round =>
    obtain ⟨j, hj, rfl, rfl, P, HB⟩ := hrel
    clear P0 B0
    have hml := Nat.le_trans (bodyL_take_le v fs j) hlen
    have hHS := HS.out
    have HSW : Hid (RecsAt wr a n 6 (fs.map frR)) := Lib.hid (hHS.below (by rw [hW0.out]; exact HB.out))
    clear hHS
    have hzr : R + 1 < wr.heap.size := (Array.getElem?_eq_some_iff.1 P.out.zr).1
    have hzr0 : R < wr.heap.size := by omega
    obtain ⟨x0, x1, x2, x3⟩ := cells4 (P.out.xr)
    by_cases hlt : j < n
    · have g0 : (j : Int) < n := by omega
      have hjl : j < fs.length := by rw [HL.out]; exact hlt
      obtain ⟨b, off, rfl, hbb, c0, c1, c2, c3, c4, c5⟩ := frs_cells HSW.out j hjl
      have hfit := hp.out _ (List.getElem_mem hjl)
      have HMT := Lib.hid (List.take_succ_eq_append_getElem hjl)
      have hlj := Nat.le_trans (bodyL_take_le v fs (j + 1)) hlen
      rw [HMT.out, bodyL_snoc, List.length_append] at hlj
      have PR := Lib.hid (fun w => fprint_any v fs[j] w (by have := hfit.2; omega) (by have := (named_pos (checkF_ok hfit.1).1).2.1; omega))
      rw [hfit.1, if_pos rfl] at PR
      clear hfit HSW
      unfold FPrints frV frR at PR
      generalize fs[j] = f at *
      generalize hse : printF v f = s at *
      clear hjl
      have HSE := Lib.hid hse
      have HM2 := Lib.hid (bodyL_snoc v (fs.take j) f)
      rw [hse] at HM2
      clear hse
      generalize hMe : bodyL v (fs.take j) = M at *
      have HME := Lib.hid hMe
      clear hMe
      go_wp2_with (first | (go_at_call 88; (with_reducible refine (PR.out _).mono ?_); rintro e w1 ⟨rfl, hb1⟩; have P1 := Lib.hid (P.out.below (below_a1 hb1)); have KB1 := Lib.hid (HB.out.trans ((below_a1 hb1).mono (by omega))); clear hb1) | (go_at_call 16; (with_reducible refine (BD.out _).mono ?_); rintro e w2 ⟨rfl, hb2⟩; have P2 := Lib.hid (P1.out.below (below_a1 hb2)); have hk1 := P1.out.le; have KB2 := Lib.hid (KB1.out.trans ((below_a1 hb2).mono hk1)); clear hb2 hk1) | (at_builtin; refine wpList_pushR w2 rfl (.tmp 40) (.tmp 42) 67 rfl (R + 2) 9 1 16 _ Try.underlying67 info_str1 rfl (by decide) (by decide) _ (((fs.take j).map (printF v)).map strR) (strR s) _ (by rfl) rfl (one_strR _) (by rfl) P2.out.rc (by rfl) (by rw [List.length_map, List.length_map, List.length_take]; omega) P2.out.le _ ?_; intro v3 w3 hr3 hg3; have P3 := Lib.hid (P2.out.push (PS' := (fs.take j).map (printF v) ++ [s]) (by rw [List.map_append]; exact hr3) hg3 (by omega) (by omega) (by have := HRR.out; omega)); have KB3 := Lib.hid (grown_belowR KB2.out hg3 (fun k e => (P2.out.rc.lt k e).1) P2.out.le); clear hr3 hg3))
      refine ⟨⟨j + 1, by omega, by simp, ?_, ?_, KB3⟩, by simp [intOf]; omega⟩
      · rw [HMT.out, HM2.out, List.length_append]; simp
      · refine Lib.hid ?_
        rw [HMT.out, List.map_append, List.map_cons, List.map_nil, HSE.out]
        exact P3.out
    · have g0 : ¬ (j : Int) < n := by omega
      have hjn : j = n := by omega
      subst hjn
      have e0 : fs.take j = fs := List.take_of_length_le (by rw [HL.out]; exact Nat.le_refl _)
      rw [e0] at P
      rw [e0] at hml
      rw [e0]
      clear e0 hlt hj
      have JO := Lib.hid (fun w h => join_recs (R + 2) u4 (fs.map (printF v)) w h (by rw [List.length_map, HL.out]; omega) (by show (bodyL v fs).length ≤ _; omega))
      have EX := Lib.hid (fun w => extra_any (bodyL v fs) w (by omega))
      have PU := Lib.hid (fun w => put_any (bodyL v fs) w (by omega))
      have hcn := sndCnt_le (bodyL v fs)
      have hR2 := HRES.out
      unfold bodyT at hR2
      have HR2 := Lib.hid hR2
      clear hR2
      rw [show (fs.map (printF v)).flatten = bodyL v fs from rfl] at JO
      have P1 := Lib.hid (P.out.below ((Below.refl wr.heap.size wr).alloc (Nat.le_refl _) (.cells #[.int .i64 4, .int .i64 j] 31)))
      generalize bodyL v fs = M at *
      generalize sndCnt M = k at *
      generalize wholeB v fl = wh at *
      have hm3 : (M.length : Int) ≤ 100000000 := by omega
      have hk3 : (k : Int) ≤ 100000000 := by omega
      rcases wh with _ | _
      · go_wp2_with (first | (go_at_call 50; (with_reducible refine (JO.out _ P1.out.rc).mono ?_); rintro e w2 ⟨rfl, hb2⟩; have P2 := Lib.hid (P1.out.below hb2); obtain ⟨y0, y1, y2, y3⟩ := cells4 (P2.out.xr); clear hb2) | (go_at_call 57; (with_reducible refine (WH.out _).mono ?_); rintro e w3 ⟨rfl, hb3⟩; have P3 := Lib.hid (P2.out.below hb3); obtain ⟨z0, z1⟩ := cells2 (P3.out.zr); obtain ⟨zf0, zf1⟩ := frees2 (P3.out.zr); clear hb3))
        refine end_tmp_cell rfl rfl rfl (store2 P3.out.zr rfl) Try.underlying31 rfl (by kernel_rfl) ⟨by rw [HR2.out]; rfl, ?_⟩
        have h := HRR.out
        subst h
        exact Below.setCell (Below.setCell P3.out.be (by simp) _) (by simp) _
      · go_wp2_with (first | (go_at_call 50; (with_reducible refine (JO.out _ P1.out.rc).mono ?_); rintro e w2 ⟨rfl, hb2⟩; have P2 := Lib.hid (P1.out.below hb2); obtain ⟨y0, y1, y2, y3⟩ := cells4 (P2.out.xr); clear hb2) | (go_at_call 57; (with_reducible refine (WH.out _).mono ?_); rintro e w3 ⟨rfl, hb3⟩; have P3 := Lib.hid (P2.out.below hb3); clear hb3) | (go_at_call 63; (with_reducible refine (EX.out _).mono ?_); rintro e wx ⟨rfl, rfl⟩) | (go_at_call 18; (with_reducible refine (PU.out _).mono ?_); rintro e w5 ⟨rfl, hb5⟩; have P5 := Lib.hid (P3.out.below hb5); obtain ⟨z0, z1⟩ := cells2 (P5.out.zr); obtain ⟨zf0, zf1⟩ := frees2 (P5.out.zr); clear hb5))
        refine end_tmp_cell rfl rfl rfl (store2 P5.out.zr rfl) Try.underlying31 rfl (by kernel_rfl) ⟨by rw [HR2.out]; rfl, ?_⟩
        have h := HRR.out
        subst h
        exact Below.setCell (Below.setCell P5.out.be (by simp) _) (by simp) _
end Go.Proofs.Ytmnmonmbdgedbaa
