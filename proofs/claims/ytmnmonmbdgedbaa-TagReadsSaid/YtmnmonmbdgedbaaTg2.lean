/- Layer 15 (tag): slices of frames; Check, walked. -/
import Derived.Test.YtmnmonmbdgedbaaTg1
import Derived.Deep.LoopGhost
namespace Go.Proofs.Ytmnmonmbdgedbaa
open Go.RowKit
set_option linter.unusedSimpArgs false

theorem frs_cells {w : World} {a : Option Addr} {n : Nat} {L : List Fr} (h : RecsAt w a n 6 (L.map frR)) (k : Nat) (hk : k < L.length) : ∃ b off, a = some ⟨b, off, none⟩ ∧ b < w.heap.size ∧
    w.cell? ⟨b, off + k * 6, none⟩ = some (.string ⟨L[k].id.toArray⟩) ∧ w.cell? ⟨b, off + k * 6 + 1, none⟩ = some (.int .u8 L[k].st.toNat) ∧ w.cell? ⟨b, off + k * 6 + 2, none⟩ = some (.int .u8 L[k].fm.toNat) ∧
    w.cell? ⟨b, off + k * 6 + 3, none⟩ = some (.int .u8 L[k].gr.toNat) ∧ w.cell? ⟨b, off + k * 6 + 4, none⟩ = some (.string ⟨L[k].bo.toArray⟩) ∧ w.cell? ⟨b, off + k * 6 + 5, none⟩ = some (.int .i64 L[k].pl) := by
  have hn := h.1
  rcases h.2.2 with h0 | ⟨b, off, ha, hb, hc⟩
  · simp at hn; omega
  · have hk' : k < (L.map frR).length := by simpa using hk
    have e : (L.map frR)[k] = frR L[k] := by simp
    have k0 := hc k hk' 0 (by decide)
    have k1 := hc k hk' 1 (by decide)
    have k2 := hc k hk' 2 (by decide)
    have k3 := hc k hk' 3 (by decide)
    have k4 := hc k hk' 4 (by decide)
    have k5 := hc k hk' 5 (by decide)
    rw [e] at k0 k1 k2 k3 k4 k5
    exact ⟨b, off, ha, hb, k0, k1, k2, k3, k4, k5⟩
/-- is a tag's head none that may be? (a bit of the flags that may not be: but for the one that tells of an extended tag) -/
def badH (v : Int) (rv fl : UInt8) : Bool := decide (letters v = 0) || ((rv.toNat : Int) == 255 || anB fl (allowN v - (allowN v &&& 64)))
/-- is a frame none that may stand in a tag? -/
def badIn (v : Int) (fl : UInt8) (f : Fr) : Bool := decide (checkF v f ≠ 0) || (decide (v = 4) && tb fl 128 && !tb f.fm 2)
def firstBad (v : Int) (fl : UInt8) (fs : List Fr) : Nat := fs.findIdx (badIn v fl)
def checkT (t : Tg) : Int × Int :=
  if badH t.v t.rv t.fl = true then (5, 0) else if firstBad t.v t.fl t.fs < t.fs.length then (5, (firstBad t.v t.fl t.fs : Nat)) else if 4096 < t.fs.length then (4, 4096) else (0, 0)
theorem andnot64 (v : Int) : bits .andNot .u8 (allowN v : Int) 64 = ((allowN v - (allowN v &&& 64) : Nat) : Int) := by
  unfold allowN
  split
  · decide
  · split
    · decide
    · split <;> decide
def CheckT (c : Int × Int) (w : World) (e : Ending) (w' : World) : Prop := e = .returned (.agg #[.int .i64 c.1, .int .i64 c.2]) ∧ Below w.heap.size w w'
theorem findIdx_of {α : Type} {p : α → Bool} {l : List α} {j : Nat} (h : j < l.length) (h1 : ∀ x ∈ l.take j, p x = false) (h2 : p l[j] = true) : l.findIdx p = j := by
  rw [List.findIdx_eq h]
  refine ⟨h2, fun k hk => ?_⟩
  exact h1 _ (List.mem_take_iff_getElem.2 ⟨k, by omega, rfl⟩)
theorem findIdx_none {α : Type} {p : α → Bool} {l : List α} (h1 : ∀ x ∈ l, p x = false) : l.findIdx p = l.length := by
  rw [List.findIdx_eq_length]
  exact fun x hx => by rw [h1 x hx]
theorem take_all_snoc {α : Type} {P : α → Prop} {l : List α} {j : Nat} (h : j < l.length) (h1 : ∀ x ∈ l.take j, P x) (h2 : P l[j]) : ∀ x ∈ l.take (j + 1), P x := by
  rw [List.take_succ_eq_append_getElem h]
  intro x hx
  rcases List.mem_append.1 hx with hx | hx
  · exact h1 x hx
  · obtain rfl : x = l[j] := by simpa using hx
    exact h2
set_option maxHeartbeats 4000000 in
set_option maxRecDepth 100000 in
theorem tcheck_badh (v : Int) (rv fl : UInt8) (a : Option Addr) (n cap : Nat) (w : World) (hb : badH v rv fl = true) :
    Calls Try.prog 30 #[.agg #[.int .i64 v, .int .u8 rv.toNat, .int .u8 fl.toNat, .slice a n cap]] w (CheckT (5, 0) w) := by
  have LT := Lib.hid (fun w => letters_any v w)
  have AL := Lib.hid (fun w => allow_any v w)
  have hk := andnot64 v
  have hlt := allowN_lt v
  unfold CheckT
  by_cases h0 : letters v = 0
  · rw [h0] at LT
    clear hb h0 hlt
    generalize allowN v - (allowN v &&& 64) = kb at *
    generalize allowN v = k at *
    go_enter Try.func30, Try.ntmps30
    go_wp2_with (first | (go_at_call 74; (with_reducible refine (AL.out _).mono ?_); rintro e wx ⟨rfl, rfl⟩) | (go_at_call 75; (with_reducible refine (LT.out _).mono ?_); rintro e wx ⟨rfl, rfl⟩))
    exact end_cell rfl rfl rfl (at_a2 w _ _ _) Try.underlying31 rfl (by kernel_rfl) ⟨rfl, ((Below.refl _ _).alloc (Nat.le_refl _) _).alloc (by simp) _⟩
  · have t0 : (((letters v : Nat) : Int) == 0) = false := by simpa using h0
    have hd0 : decide (letters v = 0) = false := by simpa using h0
    unfold badH at hb
    rw [hd0, Bool.false_or] at hb
    generalize letters v = n0 at *
    rcases hr : ((rv.toNat : Int) == 255) with _ | _
    · rw [hr, Bool.false_or] at hb
      have han : (bits .andNot .u8 (fl.toNat : Int) ((allowN v - (allowN v &&& 64) : Nat) : Int) != 0) = true := by rw [an_bits _ _ (by omega)]; exact hb
      clear hb h0 hd0 hlt
      generalize allowN v - (allowN v &&& 64) = kb at *
      generalize allowN v = k at *
      go_enter Try.func30, Try.ntmps30
      go_wp2_with (first | (go_at_call 74; (with_reducible refine (AL.out _).mono ?_); rintro e wx ⟨rfl, rfl⟩) | (go_at_call 75; (with_reducible refine (LT.out _).mono ?_); rintro e wx ⟨rfl, rfl⟩))
      exact end_cell rfl rfl rfl (at_a2 w _ _ _) Try.underlying31 rfl (by kernel_rfl) ⟨rfl, ((Below.refl _ _).alloc (Nat.le_refl _) _).alloc (by simp) _⟩
    · clear hb h0 hd0 hlt
      generalize allowN v - (allowN v &&& 64) = kb at *
      generalize allowN v = k at *
      go_enter Try.func30, Try.ntmps30
      go_wp2_with (first | (go_at_call 74; (with_reducible refine (AL.out _).mono ?_); rintro e wx ⟨rfl, rfl⟩) | (go_at_call 75; (with_reducible refine (LT.out _).mono ?_); rintro e wx ⟨rfl, rfl⟩))
      exact end_cell rfl rfl rfl (at_a2 w _ _ _) Try.underlying31 rfl (by kernel_rfl) ⟨rfl, ((Below.refl _ _).alloc (Nat.le_refl _) _).alloc (by simp) _⟩
theorem bad_h_not {v : Int} {rv fl : UInt8} (hb : badH v rv fl = false) : letters v ≠ 0 ∧ ((rv.toNat : Int) == 255) = false ∧ (bits .andNot .u8 (fl.toNat : Int) ((allowN v - (allowN v &&& 64) : Nat) : Int) != 0) = false := by
  have hlt := allowN_lt v
  unfold badH at hb
  simp only [Bool.or_eq_false_iff, decide_eq_false_iff_not] at hb
  refine ⟨hb.1, hb.2.1, ?_⟩
  rw [an_bits _ _ (by omega)]
  exact hb.2.2
set_option maxHeartbeats 8000000 in
set_option maxRecDepth 100000 in
theorem tcheck_in (v : Int) (rv fl : UInt8) (a : Option Addr) (n cap : Nat) (fs : List Fr) (res : Int × Int) (w : World) (hs : Hid (RecsAt w a n 6 (fs.map frR))) (hn : n ≤ 1000000000) (hp : Hid (∀ f ∈ fs, f.id.length ≤ 1000000000))
    (hb : badH v rv fl = false) (HR : Hid (res = if firstBad v fl fs < fs.length then (5, ((firstBad v fl fs : Nat) : Int)) else if 4096 < fs.length then (4, 4096) else (0, 0))) :
    Calls Try.prog 30 #[.agg #[.int .i64 v, .int .u8 rv.toNat, .int .u8 fl.toNat, .slice a n cap]] w (CheckT res w) := by
  have LT := Lib.hid (fun w => letters_any v w)
  have AL := Lib.hid (fun w => allow_any v w)
  have SP := Lib.hid (fun w => tspread_any v rv fl w)
  have hk := andnot64 v
  obtain ⟨h0, hr, han⟩ := bad_h_not hb
  have t0 : (((letters v : Nat) : Int) == 0) = false := by simpa using h0
  have HL : Hid (fs.length = n) := Lib.hid (by simpa using hs.out.1)
  clear hb h0
  generalize letters v = n0 at *
  generalize allowN v - (allowN v &&& 64) = kb at *
  generalize allowN v = k at *
  have hni : (n : Int) ≤ 1000000000 := by omega
  unfold CheckT
  go_enter Try.func30, Try.ntmps30
  go_upto_region 4 with (first | (go_at_call 74; (with_reducible refine (AL.out _).mono ?_); rintro e wx ⟨rfl, rfl⟩) | (go_at_call 75; (with_reducible refine (LT.out _).mono ?_); rintro e wx ⟨rfl, rfl⟩))
  clear LT AL hk han hr t0
  have X := Lib.hid (at_a1 w #[.int .i64 v, .int .u8 rv.toNat, .int .u8 fl.toNat, .slice a n cap] 26 (.cells #[.int .i64 0, .int .i64 0] 31))
  have F := Lib.hid (at_a2 w #[.int .i64 0, .int .i64 0] 31 (.cells #[.int .i64 v, .int .u8 rv.toNat, .int .u8 fl.toNat, .slice a n cap] 26))
  have K : Hid (Below w.heap.size w ((w.alloc (.cells #[.int .i64 v, .int .u8 rv.toNat, .int .u8 fl.toNat, .slice a n cap] 26)).alloc (.cells #[.int .i64 0, .int .i64 0] 31))) := Lib.hid (((Below.refl _ _).alloc (Nat.le_refl _) _).alloc (by simp) _)
  have HS := Lib.hid (hs.out.below K.out)
  obtain ⟨R, hR⟩ : ∃ R, R = w.heap.size := ⟨_, rfl⟩
  rw [← hR] at X F
  rw [← hR]
  have HRR := Lib.hid hR
  clear hR hs
  generalize (w.alloc (.cells #[.int .i64 v, .int .u8 rv.toNat, .int .u8 fl.toNat, .slice a n cap] 26)).alloc (.cells #[.int .i64 0, .int .i64 0] 31) = w0 at *
  obtain ⟨x0, x1, x2, x3⟩ := cells4 (X.out)
  have hz0 := (Array.getElem?_eq_some_iff.1 F.out).1
  go_wp2
  go_loopw [35] (fun i wr => ∃ (j : Nat), j ≤ n ∧ i = .int .i64 j ∧ Hid (∀ x ∈ fs.take j, badIn v fl x = false) ∧ Hid (Below w0.heap.size w0 wr)) (fun i _ => n - (intOf i).toNat)
  case atStart => exact ⟨0, by omega, rfl, Lib.hid (by simp), Lib.hid (Below.refl _ _)⟩
  case round =>
    obtain ⟨j, hj, rfl, HG, HB⟩ := hrel
    clear x0 x1 x2 x3
    replace X := Lib.hid (block_below X.out HB.out)
    replace F := Lib.hid (block_below F.out HB.out)
    replace HS := Lib.hid (HS.out.below HB.out)
    replace K := Lib.hid (K.out.trans (HB.out.mono K.out.size))
    have hz : R + 1 < wr.heap.size := (Array.getElem?_eq_some_iff.1 F.out).1
    have hzr : R < wr.heap.size := by omega
    clear hz0
    by_cases hlt : j < n
    · have g0 : (j : Int) < n := by omega
      have hjl : j < fs.length := by rw [HL.out]; exact hlt
      obtain ⟨b, off, rfl, hbb, c0, c1, c2, c3, c4, c5⟩ := frs_cells HS.out j hjl
      have hid := hp.out _ (List.getElem_mem hjl)
      have HN1 := Lib.hid (fun h => take_all_snoc (P := fun x => badIn v fl x = false) hjl HG.out h)
      have HN2 := Lib.hid (fun h => findIdx_of (p := badIn v fl) hjl HG.out h)
      have CK := Lib.hid (fun w => fcheck_any v fs[j] w hid)
      clear hid HG
      unfold CheckF frV frR at CK
      generalize fs[j] = f at *
      have HBI := Lib.hid (show badIn v fl f = (decide (checkF v f ≠ 0) || (decide (v = 4) && tb fl 128 && !tb f.fm 2)) from rfl)
      have HJL := Lib.hid hjl
      clear hjl
      have hc5 : checkF v f = 0 ∨ checkF v f = 5 := by unfold checkF; split; exact .inl rfl; exact .inr rfl
      have hf2 : bits .and .u8 (f.fm.toNat : Int) 2 = ((f.fm.toNat &&& 2 : Nat) : Int) := and_bits f.fm 2 (by decide)
      have HTB := Lib.hid (show tb f.fm 2 = (((f.fm.toNat &&& 2 : Nat) : Int) != 0) from rfl)
      have HFF : Hid (firstBad v fl fs = fs.findIdx (badIn v fl)) := Lib.hid rfl
      generalize checkF v f = c at *
      obtain ⟨x0, x1, x2, x3⟩ := cells4 (X.out)
      rcases hc5 with rfl | rfl
      rotate_left
      · have BD := Lib.hid (fun w => bad_any 5 0 w)
        rw [show ((5 : Int) != 0) = true by rfl] at BD
        have HR2 : Hid (res = (5, (j : Int))) := Lib.hid (by
          have h1 := HN2.out (by rw [HBI.out]; simp)
          rw [HR.out, HFF.out, h1, if_pos HJL.out])
        clear HN1 HN2 hf2
        go_wp2_with (first | (go_at_call 76; (with_reducible refine (CK.out _).mono ?_); rintro e w1 ⟨rfl, hb1⟩; have Y := Lib.hid (block_below (at_a0 wr _ _) hb1); replace X := Lib.hid (block_below X.out (below_a1 hb1)); replace F := Lib.hid (block_below F.out (below_a1 hb1)); replace K := Lib.hid (nextB K.out (below_a1 hb1)); have KB1 := Lib.hid (nextB HB.out (below_a1 hb1)); clear hb1) | (go_at_call 16; (with_reducible refine (BD.out _).mono ?_); rintro e w2 ⟨rfl, hb2⟩; have G := Lib.hid (block_below (at_a0 w1 _ _) hb2); replace X := Lib.hid (block_below X.out (below_a1 hb2)); replace F := Lib.hid (block_below F.out (below_a1 hb2)); replace Y := Lib.hid (block_below Y.out (below_a1 hb2)); replace K := Lib.hid (nextB K.out (below_a1 hb2)); have KB2 := Lib.hid (nextB KB1.out (below_a1 hb2)); clear hb2; obtain ⟨z0, z1⟩ := cells2 (F.out); obtain ⟨zf0, zf1⟩ := frees2 (F.out); obtain ⟨g0, g1⟩ := cells2 (G.out); obtain ⟨x0, x1, x2, x3⟩ := cells4 (X.out); obtain ⟨y0, y1, y2, y3, y4, y5⟩ := cells6 (Y.out)))
        exact end_cell rfl rfl rfl (store2 F.out rfl) Try.underlying31 rfl (by kernel_rfl) ⟨by rw [HR2.out], by have h := HRR.out; subst h; exact Below.setCell (Below.setCell K.out (by simp) _) (by simp) _⟩
      · have BD := Lib.hid (fun w => bad_any 0 0 w)
        rw [show ((0 : Int) != 0) = false by rfl] at BD
        by_cases h4 : v = 4
        · have t4 : (v == 4) = true := by simpa using h4
          have hd4 : decide (v = 4) = true := by simpa using h4
          rw [hd4] at HBI
          clear h4 hd4
          generalize tb fl 128 = sb at *
          rcases sb with _ | _
          · clear hf2
            go_wp2_with (first | (go_at_call 76; (with_reducible refine (CK.out _).mono ?_); rintro e w1 ⟨rfl, hb1⟩; have Y := Lib.hid (block_below (at_a0 wr _ _) hb1); replace X := Lib.hid (block_below X.out (below_a1 hb1)); replace F := Lib.hid (block_below F.out (below_a1 hb1)); replace K := Lib.hid (nextB K.out (below_a1 hb1)); have KB1 := Lib.hid (nextB HB.out (below_a1 hb1)); clear hb1) | (go_at_call 16; (with_reducible refine (BD.out _).mono ?_); rintro e w2 ⟨rfl, hb2⟩; have G := Lib.hid (block_below (at_a0 w1 _ _) hb2); replace X := Lib.hid (block_below X.out (below_a1 hb2)); replace F := Lib.hid (block_below F.out (below_a1 hb2)); replace Y := Lib.hid (block_below Y.out (below_a1 hb2)); replace K := Lib.hid (nextB K.out (below_a1 hb2)); have KB2 := Lib.hid (nextB KB1.out (below_a1 hb2)); clear hb2; obtain ⟨z0, z1⟩ := cells2 (F.out); obtain ⟨zf0, zf1⟩ := frees2 (F.out); obtain ⟨g0, g1⟩ := cells2 (G.out); obtain ⟨x0, x1, x2, x3⟩ := cells4 (X.out); obtain ⟨y0, y1, y2, y3, y4, y5⟩ := cells6 (Y.out)) | (go_at_call 23; (with_reducible refine (SP.out _).mono ?_); rintro e w3 ⟨rfl, hb3⟩; have KB3 := Lib.hid (nextB KB2.out hb3); replace X := Lib.hid (block_below X.out (hb3)); replace F := Lib.hid (block_below F.out (hb3)); replace Y := Lib.hid (block_below Y.out (hb3)); replace K := Lib.hid (nextB K.out (hb3)); clear hb3; obtain ⟨z0, z1⟩ := cells2 (F.out); obtain ⟨zf0, zf1⟩ := frees2 (F.out); obtain ⟨y0, y1, y2, y3, y4, y5⟩ := cells6 (Y.out)))
            refine ⟨⟨j + 1, by omega, by simp, Lib.hid (HN1.out (by rw [HBI.out]; simp)), KB3⟩, by simp [intOf]; omega⟩
          · rcases hg2 : (((f.fm.toNat &&& 2 : Nat) : Int) == 0) with _ | _
            · have HG2 := Lib.hid (show tb f.fm 2 = true by rw [HTB.out, bne, hg2]; rfl)
              go_wp2_with (first | (go_at_call 76; (with_reducible refine (CK.out _).mono ?_); rintro e w1 ⟨rfl, hb1⟩; have Y := Lib.hid (block_below (at_a0 wr _ _) hb1); replace X := Lib.hid (block_below X.out (below_a1 hb1)); replace F := Lib.hid (block_below F.out (below_a1 hb1)); replace K := Lib.hid (nextB K.out (below_a1 hb1)); have KB1 := Lib.hid (nextB HB.out (below_a1 hb1)); clear hb1) | (go_at_call 16; (with_reducible refine (BD.out _).mono ?_); rintro e w2 ⟨rfl, hb2⟩; have G := Lib.hid (block_below (at_a0 w1 _ _) hb2); replace X := Lib.hid (block_below X.out (below_a1 hb2)); replace F := Lib.hid (block_below F.out (below_a1 hb2)); replace Y := Lib.hid (block_below Y.out (below_a1 hb2)); replace K := Lib.hid (nextB K.out (below_a1 hb2)); have KB2 := Lib.hid (nextB KB1.out (below_a1 hb2)); clear hb2; obtain ⟨z0, z1⟩ := cells2 (F.out); obtain ⟨zf0, zf1⟩ := frees2 (F.out); obtain ⟨g0, g1⟩ := cells2 (G.out); obtain ⟨x0, x1, x2, x3⟩ := cells4 (X.out); obtain ⟨y0, y1, y2, y3, y4, y5⟩ := cells6 (Y.out)) | (go_at_call 23; (with_reducible refine (SP.out _).mono ?_); rintro e w3 ⟨rfl, hb3⟩; have KB3 := Lib.hid (nextB KB2.out hb3); replace X := Lib.hid (block_below X.out (hb3)); replace F := Lib.hid (block_below F.out (hb3)); replace Y := Lib.hid (block_below Y.out (hb3)); replace K := Lib.hid (nextB K.out (hb3)); clear hb3; obtain ⟨z0, z1⟩ := cells2 (F.out); obtain ⟨zf0, zf1⟩ := frees2 (F.out); obtain ⟨y0, y1, y2, y3, y4, y5⟩ := cells6 (Y.out)))
              refine ⟨⟨j + 1, by omega, by simp, Lib.hid (HN1.out (by rw [HBI.out]; simp [HG2.out])), KB3⟩, by simp [intOf]; omega⟩
            · have HG2 := Lib.hid (show tb f.fm 2 = false by rw [HTB.out, bne, hg2]; rfl)
              have HR2 : Hid (res = (5, (j : Int))) := Lib.hid (by
                have h1 := HN2.out (by rw [HBI.out, HG2.out]; simp)
                rw [HR.out, HFF.out, h1, if_pos HJL.out])
              go_wp2_with (first | (go_at_call 76; (with_reducible refine (CK.out _).mono ?_); rintro e w1 ⟨rfl, hb1⟩; have Y := Lib.hid (block_below (at_a0 wr _ _) hb1); replace X := Lib.hid (block_below X.out (below_a1 hb1)); replace F := Lib.hid (block_below F.out (below_a1 hb1)); replace K := Lib.hid (nextB K.out (below_a1 hb1)); have KB1 := Lib.hid (nextB HB.out (below_a1 hb1)); clear hb1) | (go_at_call 16; (with_reducible refine (BD.out _).mono ?_); rintro e w2 ⟨rfl, hb2⟩; have G := Lib.hid (block_below (at_a0 w1 _ _) hb2); replace X := Lib.hid (block_below X.out (below_a1 hb2)); replace F := Lib.hid (block_below F.out (below_a1 hb2)); replace Y := Lib.hid (block_below Y.out (below_a1 hb2)); replace K := Lib.hid (nextB K.out (below_a1 hb2)); have KB2 := Lib.hid (nextB KB1.out (below_a1 hb2)); clear hb2; obtain ⟨z0, z1⟩ := cells2 (F.out); obtain ⟨zf0, zf1⟩ := frees2 (F.out); obtain ⟨g0, g1⟩ := cells2 (G.out); obtain ⟨x0, x1, x2, x3⟩ := cells4 (X.out); obtain ⟨y0, y1, y2, y3, y4, y5⟩ := cells6 (Y.out)) | (go_at_call 23; (with_reducible refine (SP.out _).mono ?_); rintro e w3 ⟨rfl, hb3⟩; have KB3 := Lib.hid (nextB KB2.out hb3); replace X := Lib.hid (block_below X.out (hb3)); replace F := Lib.hid (block_below F.out (hb3)); replace Y := Lib.hid (block_below Y.out (hb3)); replace K := Lib.hid (nextB K.out (hb3)); clear hb3; obtain ⟨z0, z1⟩ := cells2 (F.out); obtain ⟨zf0, zf1⟩ := frees2 (F.out); obtain ⟨y0, y1, y2, y3, y4, y5⟩ := cells6 (Y.out)))
              exact end_cell rfl rfl rfl (store2 F.out rfl) Try.underlying31 rfl (by kernel_rfl) ⟨by rw [HR2.out], by have h := HRR.out; subst h; exact Below.setCell (Below.setCell K.out (by simp) _) (by simp) _⟩
        · have t4 : (v == 4) = false := by simpa using h4
          have hd4 : decide (v = 4) = false := by simpa using h4
          rw [hd4] at HBI
          clear h4 hd4 hf2
          go_wp2_with (first | (go_at_call 76; (with_reducible refine (CK.out _).mono ?_); rintro e w1 ⟨rfl, hb1⟩; have Y := Lib.hid (block_below (at_a0 wr _ _) hb1); replace X := Lib.hid (block_below X.out (below_a1 hb1)); replace F := Lib.hid (block_below F.out (below_a1 hb1)); replace K := Lib.hid (nextB K.out (below_a1 hb1)); have KB1 := Lib.hid (nextB HB.out (below_a1 hb1)); clear hb1) | (go_at_call 16; (with_reducible refine (BD.out _).mono ?_); rintro e w2 ⟨rfl, hb2⟩; have G := Lib.hid (block_below (at_a0 w1 _ _) hb2); replace X := Lib.hid (block_below X.out (below_a1 hb2)); replace F := Lib.hid (block_below F.out (below_a1 hb2)); replace Y := Lib.hid (block_below Y.out (below_a1 hb2)); replace K := Lib.hid (nextB K.out (below_a1 hb2)); have KB2 := Lib.hid (nextB KB1.out (below_a1 hb2)); clear hb2; obtain ⟨z0, z1⟩ := cells2 (F.out); obtain ⟨zf0, zf1⟩ := frees2 (F.out); obtain ⟨g0, g1⟩ := cells2 (G.out); obtain ⟨x0, x1, x2, x3⟩ := cells4 (X.out); obtain ⟨y0, y1, y2, y3, y4, y5⟩ := cells6 (Y.out)))
          refine ⟨⟨j + 1, by omega, by simp, Lib.hid (HN1.out (by rw [HBI.out]; simp)), KB2⟩, by simp [intOf]; omega⟩
    · have g0 : ¬ (j : Int) < n := by omega
      have hjn : j = n := by omega
      subst hjn
      have HR2 : Hid (res = if 4096 < j then (4, 4096) else (0, 0)) := Lib.hid (by
        have e0 : fs.take j = fs := List.take_of_length_le (by rw [HL.out]; exact Nat.le_refl _)
        rw [e0] at HG
        have h1 : firstBad v fl fs = fs.length := findIdx_none HG.out
        rw [HR.out, h1, if_neg (by omega), HL.out])
      obtain ⟨x0, x1, x2, x3⟩ := cells4 (X.out)
      obtain ⟨z0, z1⟩ := cells2 (F.out); obtain ⟨zf0, zf1⟩ := frees2 (F.out)
      by_cases hbig : (4096 : Int) < j
      · go_wp2
        exact end_cell rfl rfl rfl (store2 F.out rfl) Try.underlying31 rfl (by kernel_rfl) ⟨by rw [HR2.out, if_pos (by omega)], by have h := HRR.out; subst h; exact Below.setCell (Below.setCell K.out (by simp) _) (by simp) _⟩
      · go_wp2
        exact end_cell rfl rfl rfl (store2 F.out rfl) Try.underlying31 rfl (by kernel_rfl) ⟨by rw [HR2.out, if_neg (by omega)], by have h := HRR.out; subst h; exact Below.setCell (Below.setCell K.out (by simp) _) (by simp) _⟩
theorem tcheck_any (t : Tg) (a : Option Addr) (n cap : Nat) (w : World) (hs : RecsAt w a n 6 (t.fs.map frR)) (hn : n ≤ 1000000000) (hp : ∀ f ∈ t.fs, f.id.length ≤ 1000000000) :
    Calls Try.prog 30 #[.agg #[.int .i64 t.v, .int .u8 t.rv.toNat, .int .u8 t.fl.toNat, .slice a n cap]] w (CheckT (checkT t) w) := by
  unfold checkT
  rcases hb : badH t.v t.rv t.fl with _ | _
  · exact tcheck_in t.v t.rv t.fl a n cap t.fs _ w (Lib.hid hs) hn (Lib.hid hp) hb (Lib.hid rfl)
  · exact tcheck_badh t.v t.rv t.fl a n cap w hb
end Go.Proofs.Ytmnmonmbdgedbaa
