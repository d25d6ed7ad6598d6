/- Layer 15 (tag): Print, walked. -/
import Derived.Test.YtmnmonmbdgedbaaTg3
import Derived.Deep.RegionHeld3
namespace Go.Proofs.Ytmnmonmbdgedbaa
open Go.RowKit
set_option linter.unusedVariables false
set_option linter.unusedSimpArgs false

theorem strs4 {w : World} (a0 a1 a2 a3 : List UInt8) (T : TypeId) : StrsAt (w.alloc (.cells #[.string ⟨a0.toArray⟩, .string ⟨a1.toArray⟩, .string ⟨a2.toArray⟩, .string ⟨a3.toArray⟩] T)) (some ⟨w.heap.size, 0, none⟩) 4 [a0, a1, a2, a3] := by
  refine ⟨rfl, .inr ⟨_, _, rfl, by simp, ?_⟩⟩
  intro i h
  match i, h with
  | 0, _ => exact cell_at (at_a0 _ _ _)
  | 1, _ => exact cell_at (at_a0 _ _ _)
  | 2, _ => exact cell_at (at_a0 _ _ _)
  | 3, _ => exact cell_at (at_a0 _ _ _)
/-- a slice of three texts that the call writes out -/
theorem Recs.lit3 (w : World) (base e : Nat) (u0 u1 u2 : Value) (hb : base ≤ w.heap.size) (h0 : u0.oneCell' = true) (h1 : u1.oneCell' = true) (h2 : u2.oneCell' = true) : Recs (w.alloc (.cells #[u0, u1, u2] e)) base e 1 (.slice (some ⟨w.heap.size, 0, none⟩) 3 3) [[u0], [u1], [u2]] :=
  ⟨by intro r hr; simp only [List.mem_cons, List.not_mem_nil, or_false] at hr; rcases hr with rfl | rfl | rfl <;> rfl,
    rfl, .inr ⟨_, 3, #[u0, u1, u2], rfl, hb, at_a0 _ _ _, Nat.le_refl _, by decide, rfl, rfl⟩⟩
def TPrints (s : List UInt8) (c : Int × Int) (w : World) (e : Ending) (w' : World) : Prop := e = .returned (.tuple #[.string ⟨s.toArray⟩, .agg #[.int .i64 c.1, .int .i64 c.2]]) ∧ Below w.heap.size w w'
set_option maxHeartbeats 2000000 in
set_option maxRecDepth 100000 in
theorem tprint_bad (v : Int) (rv fl : UInt8) (a : Option Addr) (n cap : Nat) (c q : Int) {HS : World → Prop} (w : World) (hc : c ≠ 0)
    (CK : Hid (∀ w, HS w → Calls Try.prog 30 #[.agg #[.int .i64 v, .int .u8 rv.toNat, .int .u8 fl.toNat, .slice a n cap]] w (CheckT (c, q) w))) (hs : HS ((w.alloc (.cells #[.int .i64 v, .int .u8 rv.toNat, .int .u8 fl.toNat, .slice a n cap] 26)).alloc (.cells #[.int .i64 0, .int .i64 0] 31))) :
    Calls Try.prog 15 #[.agg #[.int .i64 v, .int .u8 rv.toNat, .int .u8 fl.toNat, .slice a n cap]] w (TPrints [] (c, q) w) := by
  have BD := Lib.hid (fun w => bad_any c q w)
  rw [show (c != 0) = true by simpa using hc] at BD
  have HSS := Lib.hid hs
  unfold CheckT at *
  clear hc hs
  go_enter Try.func15, Try.ntmps15
  go_upto_region 3 with (first | (go_at_call 30; (with_reducible refine (CK.out _ HSS.out).mono ?_); rintro e w1 ⟨rfl, hb1⟩; have K1 := Lib.hid hb1; have HF1 := Lib.hid (block_below (at_a2 w _ _ _) hb1); clear hb1) | (go_at_call 16; (with_reducible refine (BD.out _).mono ?_); rintro e w2 ⟨rfl, hb2⟩; have K2 := Lib.hid hb2; clear hb2))
  have hF2 := block_below ((heap_alloc_old w1 (.cells #[.int .i64 c, .int .i64 q] 31) (Array.getElem?_eq_some_iff.1 HF1.out).1).trans HF1.out) K2.out
  have hT2 := block_below (at_a0 w1 #[.int .i64 c, .int .i64 q] 31) K2.out
  obtain ⟨c0, c1⟩ := cells2 (hT2)
  obtain ⟨d0, d1⟩ := cells2 (hF2); obtain ⟨df0, df1⟩ := frees2 (hF2)
  have K := Lib.hid (nextB (nextB (((Below.refl _ _).alloc (Nat.le_refl _) _).alloc (by simp) _) K1.out) (below_a1 K2.out))
  have HF := Lib.hid hF2
  have hne : w.heap.size + 1 ≠ w1.heap.size := by have := K1.out.size; simp at this; omega
  clear hT2 hF2 HF1 K1 K2
  go_region
  go_wp2
  refine end_tmp_cell rfl rfl rfl (store2 (show (World.drew w2).heap[w.heap.size + 1]? = _ from HF.out) rfl) Try.underlying31 rfl (by kernel_rfl) ⟨rfl, ?_⟩
  exact Below.setCell (Below.setCell K.out.drew (by simp) _) (by simp) _
def headT (q1 q2 q3 sz : List UInt8) : List UInt8 := [q1, q2, q3, sz].flatten
def tailT (ft : Bool) (hd : List UInt8) : List UInt8 := if ft = true then [51, 68, 73] ++ hd else []
set_option maxHeartbeats 8000000 in
set_option maxRecDepth 100000 in
theorem tprint_in (vn : Nat) (rv fl : UInt8) (a : Option Addr) (n cap : Nat) (bo sz q1 q2 q3 hd : List UInt8) (ft : Bool) {HS : World → Prop} (w : World) (hv : vn ≤ 4) (hbo : bo.length ≤ 200000000) (hh : hd.length ≤ 100)
    (hs : Hid (∀ w', Below w.heap.size w w' → HS w'))
    (CK : Hid (∀ w, HS w → Calls Try.prog 30 #[.agg #[.int .i64 vn, .int .u8 rv.toNat, .int .u8 fl.toNat, .slice a n cap]] w (CheckT (0, 0) w)))
    (BO : Hid (∀ w, HS w → Calls Try.prog 48 #[.agg #[.int .i64 vn, .int .u8 rv.toNat, .int .u8 fl.toNat, .slice a n cap]] w (BodySays bo w)))
    (FT : Hid (∀ w, Calls Try.prog 22 #[.agg #[.int .i64 vn, .int .u8 rv.toNat, .int .u8 fl.toNat]] w fun e w' => e = .returned (.bool ft) ∧ Below w.heap.size w w'))
    (SF : Hid (∀ w, Calls Try.prog 49 #[.int .u64 bo.length] w fun e w' => e = .returned (.tuple #[.string ⟨sz.toArray⟩, .bool true]) ∧ Below w.heap.size w w'))
    (B1 : Hid (∀ w, Calls Try.prog 51 #[.int .u64 vn, .int .i64 1] w fun e w' => e = .returned (.string ⟨q1.toArray⟩) ∧ Below w.heap.size w w'))
    (B2 : Hid (∀ w, Calls Try.prog 51 #[.int .u64 rv.toNat, .int .i64 1] w fun e w' => e = .returned (.string ⟨q2.toArray⟩) ∧ Below w.heap.size w w'))
    (B3 : Hid (∀ w, Calls Try.prog 51 #[.int .u64 fl.toNat, .int .i64 1] w fun e w' => e = .returned (.string ⟨q3.toArray⟩) ∧ Below w.heap.size w w'))
    (JF : Hid (∀ a w, StrsAt w a 4 [q1, q2, q3, sz] → Calls Try.prog 50 #[.slice a 4 4] w fun e w' => e = .returned (.string ⟨hd.toArray⟩) ∧ Below w.heap.size w w')) :
    Calls Try.prog 15 #[.agg #[.int .i64 vn, .int .u8 rv.toNat, .int .u8 fl.toNat, .slice a n cap]] w (TPrints ([73, 68, 51] ++ (hd ++ (bo ++ tailT ft hd))) (0, 0) w) := by
  have BD := Lib.hid (fun w => bad_any 0 0 w)
  rw [show ((0 : Int) != 0) = false by rfl] at BD
  have hbo' : (bo.length : Int) ≤ 200000000 := by omega
  have hh' : (hd.length : Int) ≤ 100 := by omega
  have hv' : (vn : Int) ≤ 4 := by omega
  have e1 := wrapu64 vn (by omega)
  have e3 := wrapu64 rv.toNat (by have := UInt8.toNat_lt rv; omega)
  have e4 := wrapu64 fl.toNat (by have := UInt8.toNat_lt fl; omega)
  have hst := byte_le rv
  have hfm := byte_le fl
  obtain ⟨xb, hxe⟩ : ∃ x, x = w.heap.size := ⟨_, rfl⟩
  have HX := Lib.hid hxe
  have HS0 := Lib.hid (hs.out _ (((Below.refl w.heap.size w).alloc (Nat.le_refl _) (.cells #[.int .i64 vn, .int .u8 rv.toNat, .int .u8 fl.toNat, .slice a n cap] 26)).alloc (by simp) (.cells #[.int .i64 0, .int .i64 0] 31)))
  unfold CheckT BodySays at *
  clear hxe
  go_enter Try.func15, Try.ntmps15
  go_upto_region 8 with (first | (go_at_call 30; (with_reducible refine (CK.out _ HS0.out).mono ?_); rintro e w1 ⟨rfl, hb1⟩; have X := Lib.hid (block_below (at_a1 w _ _ _) hb1); have F := Lib.hid (block_below (at_a2 w _ _ _) hb1); have K := Lib.hid (below_a2 hb1); clear hb1) | (go_at_call 48; (with_reducible refine (BO.out _ (hs.out _ K.out)).mono ?_); rintro e w3 ⟨rfl, hb3⟩; replace X := Lib.hid (block_below X.out (hb3)); replace F := Lib.hid (block_below F.out (hb3)); replace K := Lib.hid (nextB K.out (hb3)); clear hb3) | (go_at_call 16; (with_reducible refine (BD.out _).mono ?_); rintro e w2 ⟨rfl, hb2⟩; replace X := Lib.hid (block_below X.out (below_a1 hb2)); replace F := Lib.hid (block_below F.out (below_a1 hb2)); replace K := Lib.hid (nextB K.out (below_a1 hb2)); clear hb2; obtain ⟨x0, x1, x2, x3⟩ := cells4 (X.out)) | (go_at_call 49; (with_reducible refine (SF.out _).mono ?_); rintro e w5 ⟨rfl, hb5⟩; replace X := Lib.hid (block_below X.out (hb5)); replace F := Lib.hid (block_below F.out (hb5)); replace K := Lib.hid (nextB K.out (hb5)); clear hb5))
  have hX3 := (Array.getElem?_eq_some_iff.1 X.out).1
  have hF3 := (Array.getElem?_eq_some_iff.1 F.out).1
  clear x0 x1 x2 x3 CK BO BD HS0 SF
  have hxx := HX.out
  rw [← hxx] at X F hX3 hF3
  rw [← hxx]
  clear hxx
  have P4 : Hid (PT w w5 xb #[.int .i64 vn, .int .u8 rv.toNat, .int .u8 fl.toNat, .slice a n cap] 26 (xb + 1) #[.int .i64 0, .int .i64 0] 31 (xb + 2) (.slice none 0 0) []) := Lib.hid ⟨X.out, F.out, K.out, by omega, Recs.nil _ _ _ _⟩
  clear X F K
  have cc : w5.cell? ⟨xb, 0, none⟩ = some (.int .i64 vn) ∧ w5.cell? ⟨xb, 1, none⟩ = some (.int .u8 rv.toNat) ∧ w5.cell? ⟨xb, 2, none⟩ = some (.int .u8 fl.toNat) := ⟨cell_at (j := 0) (P4.out.xr), cell_at (j := 1) (P4.out.xr), cell_at (j := 2) (P4.out.xr)⟩
  go_region_held3 (fun w' => w'.cell? ⟨xb, 0, none⟩ = some (.int .i64 vn) ∧ w'.cell? ⟨xb, 1, none⟩ = some (.int .u8 rv.toNat) ∧ w'.cell? ⟨xb, 2, none⟩ = some (.int .u8 fl.toNat)) (first | exact cc | exact x9 | exact keep3 k8.out ((Below.refl _ _).alloc (Nat.le_refl _) _) hX3 cc | exact x8 | exact x7 | exact x6 | fail)
    (first | (go_at_call 50; (with_reducible refine (JF.out _ _ (strs4 _ _ _ _ _)).mono ?_); rintro e w9 ⟨rfl, hb9⟩; have k9 := Lib.hid (nextB (k8.out.alloc k8.out.size _) hb9); have x9 : w9.cell? ⟨xb, 0, none⟩ = some (.int .i64 vn) ∧ w9.cell? ⟨xb, 1, none⟩ = some (.int .u8 rv.toNat) ∧ w9.cell? ⟨xb, 2, none⟩ = some (.int .u8 fl.toNat) := ⟨cell_at (j := 0) (block_below P4.out.xr k9.out), cell_at (j := 1) (block_below P4.out.xr k9.out), cell_at (j := 2) (block_below P4.out.xr k9.out)⟩; clear hb9 x8) | (go_at_call 51; have _chk := k7; (with_reducible refine (B3.out _).mono ?_); rintro e w8 ⟨rfl, hb8⟩; have k8 := Lib.hid (nextB k7.out hb8); have x8 : w8.cell? ⟨xb, 0, none⟩ = some (.int .i64 vn) ∧ w8.cell? ⟨xb, 1, none⟩ = some (.int .u8 rv.toNat) ∧ w8.cell? ⟨xb, 2, none⟩ = some (.int .u8 fl.toNat) := ⟨cell_at (j := 0) (block_below P4.out.xr k8.out), cell_at (j := 1) (block_below P4.out.xr k8.out), cell_at (j := 2) (block_below P4.out.xr k8.out)⟩; clear hb8 x7) | (go_at_call 51; have _chk := k6; (with_reducible refine (B2.out _).mono ?_); rintro e w7 ⟨rfl, hb7⟩; have k7 := Lib.hid (nextB k6.out hb7); have x7 : w7.cell? ⟨xb, 0, none⟩ = some (.int .i64 vn) ∧ w7.cell? ⟨xb, 1, none⟩ = some (.int .u8 rv.toNat) ∧ w7.cell? ⟨xb, 2, none⟩ = some (.int .u8 fl.toNat) := ⟨cell_at (j := 0) (block_below P4.out.xr k7.out), cell_at (j := 1) (block_below P4.out.xr k7.out), cell_at (j := 2) (block_below P4.out.xr k7.out)⟩; clear hb7 x6) | (go_at_call 51; (with_reducible refine (B1.out _).mono ?_); rintro e w6 ⟨rfl, hb6⟩; have k6 := Lib.hid (fr_drewB hb6); have x6 : w6.cell? ⟨xb, 0, none⟩ = some (.int .i64 vn) ∧ w6.cell? ⟨xb, 1, none⟩ = some (.int .u8 rv.toNat) ∧ w6.cell? ⟨xb, 2, none⟩ = some (.int .u8 fl.toNat) := ⟨cell_at (j := 0) (block_below P4.out.xr k6.out), cell_at (j := 1) (block_below P4.out.xr k6.out), cell_at (j := 2) (block_below P4.out.xr k6.out)⟩; clear hb6))
  have P8 := Lib.hid (P4.out.below k9.out)
  clear cc x9 P4 k9 k8 k7 k6 JF B1 B2 B3
  go_upto_region 10 with fail
  have hle9 := P8.out.le
  have P9 : Hid (PT w (w9.alloc (.cells #[.string ⟨#[73, 68, 51]⟩, .string ⟨hd.toArray⟩, .string ⟨bo.toArray⟩] 9)) xb #[.int .i64 vn, .int .u8 rv.toNat, .int .u8 fl.toNat, .slice a n cap] 26 (xb + 1) #[.int .i64 0, .int .i64 0] 31 (xb + 2) (.slice (some ⟨w9.heap.size, 0, none⟩) 3 3) [[73, 68, 51], hd, bo]) := Lib.hid ⟨block_below P8.out.xr ((Below.refl _ _).alloc (Nat.le_refl _) _), block_below P8.out.zr ((Below.refl _ _).alloc (Nat.le_refl _) _), P8.out.be.alloc P8.out.be.size _, Nat.le_trans hle9 (by simp), Recs.lit3 w9 (xb + 2) 9 _ _ _ hle9 rfl rfl rfl⟩
  generalize w9.alloc (.cells #[.string ⟨#[73, 68, 51]⟩, .string ⟨hd.toArray⟩, .string ⟨bo.toArray⟩] 9) = v9 at *
  generalize w9.heap.size = gb at *
  obtain ⟨x0, x1, x2, x3⟩ := cells4 (P9.out.xr)
  clear P8 hle9
  have hxw : w.heap.size ≤ xb + 2 := by have := HX.out; omega
  rcases ft with _ | _
  · have JO := Lib.hid (fun v w h => join_recs (xb + 2) v [[73, 68, 51], hd, bo] w h (by simp) (by simp; omega))
    go_wp2_with (first | (go_at_call 22; (with_reducible refine (FT.out _).mono ?_); rintro e w10 ⟨rfl, hb10⟩; have P10 := Lib.hid (P9.out.below hb10); clear hb10) | (go_at_call 50; (with_reducible refine (JO.out _ _ P10.out.rc).mono ?_); rintro e w11 ⟨rfl, hb11⟩; have P11 := Lib.hid (P10.out.below hb11); obtain ⟨z0, z1⟩ := cells2 (P11.out.zr); obtain ⟨zf0, zf1⟩ := frees2 (P11.out.zr); clear hb11))
    refine end_tmp_cell rfl rfl rfl (store2 P11.out.zr rfl) Try.underlying31 rfl (by kernel_rfl) ⟨by simp [tailT], ?_⟩
    have h := HX.out
    subst h
    exact Below.setCell (Below.setCell P11.out.be (by simp) _) (by simp) _
  · have JO := Lib.hid (fun v w h => join_recs (xb + 2) v ([[73, 68, 51], hd, bo] ++ [[51, 68, 73], hd]) w h (by simp) (by simp; omega))
    go_wp2_with (first | (go_at_call 22; (with_reducible refine (FT.out _).mono ?_); rintro e w10 ⟨rfl, hb10⟩; have P10 := Lib.hid (P9.out.below hb10); clear hb10) | (at_builtin; refine wpList_push2 w10 rfl (.tmp 55) (.tmp 57) 67 rfl (xb + 2) 9 16 _ Try.underlying67 info_str1 rfl (by decide) _ ([[73, 68, 51], hd, bo].map strR) (.string ⟨#[51, 68, 73]⟩) (.string ⟨hd.toArray⟩) rfl rfl (by rfl) P10.out.rc (by rfl) (by simp) P10.out.le _ ?_; intro v11 w11 hr11 hg11; have P11 := Lib.hid (P10.out.push (PS' := [[73, 68, 51], hd, bo] ++ [[51, 68, 73], hd]) (by rw [List.map_append]; exact hr11) hg11 (by omega) (by omega) hxw); clear hr11 hg11) | (go_at_call 50; (with_reducible refine (JO.out _ _ P11.out.rc).mono ?_); rintro e w12 ⟨rfl, hb12⟩; have P12 := Lib.hid (P11.out.below hb12); obtain ⟨z0, z1⟩ := cells2 (P12.out.zr); obtain ⟨zf0, zf1⟩ := frees2 (P12.out.zr); clear hb12))
    refine end_tmp_cell rfl rfl rfl (store2 P12.out.zr rfl) Try.underlying31 rfl (by kernel_rfl) ⟨by simp [tailT], ?_⟩
    have h := HX.out
    subst h
    exact Below.setCell (Below.setCell P12.out.be (by simp) _) (by simp) _
theorem checkT_ok {t : Tg} (h : (checkT t).1 = 0) : checkT t = (0, 0) ∧ badH t.v t.rv t.fl = false ∧ (∀ f ∈ t.fs, badIn t.v t.fl f = false) ∧ t.fs.length ≤ 4096 := by
  unfold checkT at h ⊢
  split at h
  · exact absurd h (by decide)
  · rename_i h1
    split at h
    · exact absurd (show (5 : Int) = 0 from h) (by decide)
    · rename_i h2
      split at h
      · exact absurd h (by decide)
      · rename_i h3
        rw [if_neg h1, if_neg h2, if_neg h3]
        refine ⟨rfl, by simpa using h1, ?_, by omega⟩
        intro f hf
        have h4 : firstBad t.v t.fl t.fs = t.fs.length := Nat.le_antisymm List.findIdx_le_length (by omega)
        unfold firstBad at h4
        rw [List.findIdx_eq_length] at h4
        simpa using h4 f hf
theorem badIn_ok {v : Int} {fl : UInt8} {f : Fr} (h : badIn v fl f = false) : checkF v f = 0 ∧ (v = 4 → tb fl 128 = true → tb f.fm 2 = true) := by
  unfold badIn at h
  simp only [Bool.or_eq_false_iff, decide_eq_false_iff_not] at h
  refine ⟨by have := h.1; omega, fun h4 hs => ?_⟩
  have h2 := h.2
  rw [hs] at h2
  simp [h4] at h2
  exact h2
theorem badH_ok {v : Int} {rv fl : UInt8} (h : badH v rv fl = false) : (v = 2 ∨ v = 3 ∨ v = 4) ∧ rv ≠ 255 ∧ anB fl (allowN v - (allowN v &&& 64)) = false := by
  obtain ⟨h1, h2, h3⟩ := bad_h_not h
  unfold badH at h
  simp only [Bool.or_eq_false_iff] at h
  refine ⟨letters_of h1, ?_, h.2.2⟩
  intro e
  rw [e] at h2
  exact absurd h2 (by decide)
def headL (v : Int) (rv fl : UInt8) (n : Nat) : List UInt8 := headT (bigL v.toNat 1) (bigL rv.toNat 1) (bigL fl.toNat 1) (safeL n)
def printT (t : Tg) : List UInt8 := [73, 68, 51] ++ (headL t.v t.rv t.fl (bodyT t.v t.fl t.fs).length ++ (bodyT t.v t.fl t.fs ++ tailT (footB t.v t.fl) (headL t.v t.rv t.fl (bodyT t.v t.fl t.fs).length)))
theorem headL_len (v : Int) (rv fl : UInt8) (n : Nat) : (headL v rv fl n).length = 7 := by simp [headL, headT, bigL_len, safeL_length]
theorem bodyT_le (v : Int) (fl : UInt8) (fs : List Fr) : (bodyT v fl fs).length ≤ 2 * (bodyL v fs).length := by
  unfold bodyT
  have h1 := sndPut_len (bodyL v fs)
  have h2 := sndCnt_le (bodyL v fs)
  split <;> omega
theorem tprint_any (t : Tg) (a : Option Addr) (n cap : Nat) (w : World) (hs : RecsAt w a n 6 (t.fs.map frR)) (hn : n ≤ 100000) (hp : ∀ f ∈ t.fs, f.id.length ≤ 1000000 ∧ f.bo.length ≤ 1000000) (hlen : (checkT t).1 = 0 → (bodyL t.v t.fs).length ≤ 100000000) :
    Calls Try.prog 15 #[.agg #[.int .i64 t.v, .int .u8 t.rv.toNat, .int .u8 t.fl.toNat, .slice a n cap]] w (TPrints (if (checkT t).1 = 0 then printT t else []) (checkT t) w) := by
  have CK := fun w hs => tcheck_any t a n cap w hs (by omega) (fun f hf => by have := (hp f hf).1; omega)
  by_cases hc : (checkT t).1 = 0
  rotate_left
  · rw [if_neg hc]
    exact tprint_bad t.v t.rv t.fl a n cap (checkT t).1 (checkT t).2 (HS := fun w => RecsAt w a n 6 (t.fs.map frR)) w hc (Lib.hid CK) (hs.below (((Below.refl _ _).alloc (Nat.le_refl _) _).alloc (by simp) _))
  · obtain ⟨h0, hb, hf, h4⟩ := checkT_ok hc
    obtain ⟨hv, _, _⟩ := badH_ok hb
    rw [if_pos hc, h0]
    rw [h0] at CK
    have hl := hlen hc
    have hbl := bodyT_le t.v t.fl t.fs
    obtain ⟨vn, hvn⟩ : ∃ vn : Nat, t.v = vn := ⟨t.v.toNat, by omega⟩
    have hv4 : vn ≤ 4 := by omega
    have hvt : t.v.toNat = vn := by omega
    have b2 := UInt8.toNat_lt t.rv
    have b3 := UInt8.toNat_lt t.fl
    have BO : ∀ w, RecsAt w a n 6 (t.fs.map frR) → Calls Try.prog 48 #[.agg #[.int .i64 t.v, .int .u8 t.rv.toNat, .int .u8 t.fl.toNat, .slice a n cap]] w (BodySays (bodyT t.v t.fl t.fs) w) :=
      fun w hs => tbody_in t.v t.rv t.fl a n cap t.fs w (Lib.hid hs) hn (Lib.hid fun f h => ⟨(badIn_ok (hf f h)).1, (hp f h).2⟩) hl
    have FT := fun w => foot_any t.v t.rv t.fl w
    unfold printT headL
    rw [hvt]
    rw [hvn] at CK BO FT ⊢
    exact tprint_in vn t.rv t.fl a n cap _ _ _ _ _ _ _ (HS := fun w => RecsAt w a n 6 (t.fs.map frR)) w hv4 (by rw [← hvn]; omega) (by simp [headT, bigL_len, safeL_length]) (Lib.hid fun w' h => hs.below h) (Lib.hid CK) (Lib.hid BO) (Lib.hid FT) (Lib.hid fun w => safe_yes _ w (by rw [← hvn]; omega))
      (Lib.hid fun w => big_any vn 1 1 w (Lib.hid (by omega)) (Lib.hid (by decide))) (Lib.hid fun w => big_any t.rv.toNat 1 1 w (Lib.hid (by omega)) (Lib.hid (by decide))) (Lib.hid fun w => big_any t.fl.toNat 1 1 w (Lib.hid (by omega)) (Lib.hid (by decide)))
      (Lib.hid fun a w h => octJoin_any a 4 4 _ w h (by decide) (by decide) (by simp [bigL_len, safeL_length]))
end Go.Proofs.Ytmnmonmbdgedbaa
