/- Layer 15 (tag): frames, walked (printed by gen_tg8.py). -/
import Derived.Test.YtmnmonmbdgedbaaTg6
namespace Go.Proofs.Ytmnmonmbdgedbaa
open Go.RowKit
set_option linter.unusedVariables false
set_option linter.unusedSimpArgs false

theorem keepS {w : World} {R yb j : Nat} {v0 v1 v2 u : Value} (hne : R ≠ yb) (h : w.cell? ⟨R, 0, none⟩ = some v0 ∧ w.cell? ⟨R, 1, none⟩ = some v1 ∧ w.cell? ⟨R, 2, none⟩ = some v2) :
    (w.setCell ⟨yb, j, none⟩ u).cell? ⟨R, 0, none⟩ = some v0 ∧ (w.setCell ⟨yb, j, none⟩ u).cell? ⟨R, 1, none⟩ = some v1 ∧ (w.setCell ⟨yb, j, none⟩ u).cell? ⟨R, 2, none⟩ = some v2 := by
  have e : ∀ i, (w.setCell ⟨yb, j, none⟩ u).cell? ⟨R, i, none⟩ = w.cell? ⟨R, i, none⟩ := fun i => by unfold World.cell?; rw [heap_set_other u hne]
  rw [e, e, e]
  exact h
theorem nz_step {s : List UInt8} {j : Nat} (h : j < s.length) (h1 : ∀ x ∈ s.take j, (x != 0) = false) : (s[j] = 0 → ∀ x ∈ s.take (j + 1), (x != 0) = false) ∧ (s[j] ≠ 0 → nzAt s = j) := by
  refine ⟨fun e => take_all_snoc (P := fun x => (x != 0) = false) h h1 (by simp [e]), fun e => findIdx_of h h1 (by simpa using e)⟩
set_option maxHeartbeats 8000000 in
set_option maxRecDepth 100000 in
theorem tframes_in (v : Int) (rv fl : UInt8) (b : Nat) (sp : Bool) (m0 : Rd) (w : World) (h : RdAt w b m0) (hm0 : m0.Ok) (hb0 : m0.bs ≤ 2000000000000) (ht0 : m0.t.length ≤ 24000)
    (SP : Hid (∀ w, Calls Try.prog 23 #[.agg #[.int .i64 v, .int .u8 rv.toNat, .int .u8 fl.toNat]] w fun e w' => e = .returned (.bool sp) ∧ Below w.heap.size w w')) :
    Calls Try.prog 60 #[.agg #[.int .i64 v, .int .u8 rv.toNat, .int .u8 fl.toNat], .pointer (some ⟨b, 0, none⟩)] w (TFrames b (frsM v sp m0).1 (frsM v sp m0).2 w) := by
  have hlt := h.lt
  obtain ⟨R, hR⟩ : ∃ R, R = w.heap.size := ⟨_, rfl⟩
  have HRR := Lib.hid hR
  have hbR : b < R := by omega
  have X : Hid ((w.alloc (.cells #[.int .i64 v, .int .u8 rv.toNat, .int .u8 fl.toNat] 23)).heap[R]? = some (.cells #[.int .i64 v, .int .u8 rv.toNat, .int .u8 fl.toNat] 23 (0, 0))) := Lib.hid (by rw [hR]; exact at_a0 _ _ _)
  have HM := Lib.hid (h.alloc (.cells #[.int .i64 v, .int .u8 rv.toNat, .int .u8 fl.toNat] 23))
  have O : Hid (Only b w (w.alloc (.cells #[.int .i64 v, .int .u8 rv.toNat, .int .u8 fl.toNat] 23))) := Lib.hid (Only.of_below ((Below.refl _ _).alloc (Nat.le_refl _) _))
  obtain ⟨res, hres⟩ : ∃ r, r = frsS v sp (m0.t.length + 1) m0 [] := ⟨_, rfl⟩
  have HRES : Hid (frsM v sp m0 = (padM res.1, res.2)) := Lib.hid (by rw [hres]; rfl)
  have HST := Lib.hid hres.symm
  clear hres h
  unfold TFrames
  go_enter Try.func60, Try.ntmps60
  go_wp2
  rw [← hR]
  clear hR
  generalize w.alloc (.cells #[.int .i64 v, .int .u8 rv.toNat, .int .u8 fl.toNat] 23) = w0 at *
  go_loopg [5] (m0.t.length + 1) (fun gk u wr => ∃ (m : Rd) (fs : List Fr), m.Ok ∧ m.bs ≤ 2000000000000 ∧ m.t.length ≤ 24000 ∧ m.t.length - m.nx < gk ∧ fs.length * 6 ≤ m.nx ∧ Hid (frsS v sp gk m fs = res) ∧ Hid (RdAt wr b m) ∧ Hid (Recs wr (R + 1) 47 6 u (fs.map frR)) ∧ Hid (wr.heap[R]? = some (.cells #[.int .i64 v, .int .u8 rv.toNat, .int .u8 fl.toNat] 23 (0, 0))) ∧ Hid (Only b w wr))
  case atStart => exact ⟨m0, [], hm0, hb0, ht0, by omega, Nat.zero_le _, HST, HM, Lib.hid (Recs.nil _ _ _ _), X, O⟩
  case round =>
    clear HM X O HST hm0 hb0 ht0
    obtain ⟨m, fs, hm, hb, ht, hgk, hfs, HA, HM, HV, X, O⟩ := hrel
    obtain ⟨g, rfl⟩ : ∃ g, gk = g + 1 := ⟨gk - 1, by omega⟩
    have PA := Lib.hid (fun w h => fparse_any v sp b m w h hm hb)
    have hon := fun h => fparse_on (v := v) (sp := sp) hm h
    have hst := fun h => fparse_stay (v := v) (sp := sp) hm hb h
    obtain ⟨pm, hpm⟩ : ∃ x, x = frParse v sp m := ⟨_, rfl⟩
    have hA := HA.out
    rw [frsS] at hA
    rw [← hpm] at hA PA hon hst
    clear hpm HA
    obtain ⟨m', f, ok⟩ := pm
    simp only at hA PA hon hst
    unfold FrSays FParse frV frR at PA
    have hxR := (Array.getElem?_eq_some_iff.1 X.out).1
    have cc : wr.cell? ⟨R, 0, none⟩ = some (.int .i64 v) ∧ wr.cell? ⟨R, 1, none⟩ = some (.int .u8 rv.toNat) ∧ wr.cell? ⟨R, 2, none⟩ = some (.int .u8 fl.toNat) := ⟨cell_at (j := 0) (X.out), cell_at (j := 1) (X.out), cell_at (j := 2) (X.out)⟩
    have ccd : (World.drew wr).cell? ⟨R, 0, none⟩ = some (.int .i64 v) ∧ (World.drew wr).cell? ⟨R, 1, none⟩ = some (.int .u8 rv.toNat) ∧ (World.drew wr).cell? ⟨R, 2, none⟩ = some (.int .u8 fl.toNat) := cc
    have cca : (World.drew (wr.alloc (.cells #[.string ⟨#[]⟩, .int .u8 0, .int .u8 0, .int .u8 0, .string ⟨#[]⟩, .int .i64 0] 47))).cell? ⟨R, 0, none⟩ = some (.int .i64 v) ∧ (World.drew (wr.alloc (.cells #[.string ⟨#[]⟩, .int .u8 0, .int .u8 0, .int .u8 0, .string ⟨#[]⟩, .int .i64 0] 47))).cell? ⟨R, 1, none⟩ = some (.int .u8 rv.toNat) ∧ (World.drew (wr.alloc (.cells #[.string ⟨#[]⟩, .int .u8 0, .int .u8 0, .int .u8 0, .string ⟨#[]⟩, .int .i64 0] 47))).cell? ⟨R, 2, none⟩ = some (.int .u8 fl.toNat) := keep3 (Below.refl _ wr) (((Below.refl _ wr).alloc (Nat.le_refl _) _).drew) hxR cc
    rcases ok with _ | _
    · rw [if_neg (by decide)] at hA
      have HA := Lib.hid hA
      obtain ⟨hok', hbs'⟩ := hst rfl
      clear hA hon hst
      go_upto_region 2 with (fail)
      go_region_held3 (fun w' => w'.cell? ⟨R, 0, none⟩ = some (.int .i64 v) ∧ w'.cell? ⟨R, 1, none⟩ = some (.int .u8 rv.toNat) ∧ w'.cell? ⟨R, 2, none⟩ = some (.int .u8 fl.toNat)) (first | with_reducible exact ccd | with_reducible exact cca | with_reducible exact x1 | with_reducible exact x1a | with_reducible exact x2 | with_reducible exact x2z | with_reducible exact x2a | with_reducible exact keepS hyb (keepS hyb (keepS hyb (keepS hyb (keepS hyb (keepS hyb x2))))) | fail)
        (first | (go_at_call 89; have _chk := k1; have _ch2 := Y1; (with_reducible refine (PA.out w1 (HM.out.below k1.out)).mono ?_); rintro e w2 ⟨rfl, r2, o2⟩; have X2 := Lib.hid (block_only (block_below X.out k1.out) o2 (by omega)); have hx2 := (Array.getElem?_eq_some_iff.1 X2.out).1; have x2 : w2.cell? ⟨R, 0, none⟩ = some (.int .i64 v) ∧ w2.cell? ⟨R, 1, none⟩ = some (.int .u8 rv.toNat) ∧ w2.cell? ⟨R, 2, none⟩ = some (.int .u8 fl.toNat) := ⟨cell_at (j := 0) (X2.out), cell_at (j := 1) (X2.out), cell_at (j := 2) (X2.out)⟩; have HM2 := Lib.hid r2; have Y2 := Lib.hid (block_only Y1.out o2 (by have := HM.out.lt; show wr.heap.size ≠ b; omega)); obtain ⟨q0, q1, q2, q3, q4, q5⟩ := cells6 (Y2.out); obtain ⟨qf0, qf1, qf2, qf3, qf4, qf5⟩ := frees6 (Y2.out); have hyb : R ≠ wr.heap.size := (by omega); have V2 := Lib.hid ((HV.out.below k1.out).onlyT o2 (by omega)); have O2 := Lib.hid ((O.out.trans (Only.of_below k1.out)).trans o2); clear r2 o2 x1) | (go_at_call 89; have _chk := k1; (with_reducible refine (PA.out (w1.alloc (.cells #[.string ⟨#[]⟩, .int .u8 0, .int .u8 0, .int .u8 0, .string ⟨#[]⟩, .int .i64 0] 47)) ((HM.out.below k1.out).alloc _)).mono ?_); rintro e w2 ⟨rfl, r2, o2⟩; have X2 := Lib.hid (block_only (block_below (block_below X.out k1.out) ((Below.refl _ _).alloc (Nat.le_refl _) _)) o2 (by omega)); have hx2 := (Array.getElem?_eq_some_iff.1 X2.out).1; have x2 : w2.cell? ⟨R, 0, none⟩ = some (.int .i64 v) ∧ w2.cell? ⟨R, 1, none⟩ = some (.int .u8 rv.toNat) ∧ w2.cell? ⟨R, 2, none⟩ = some (.int .u8 fl.toNat) := ⟨cell_at (j := 0) (X2.out), cell_at (j := 1) (X2.out), cell_at (j := 2) (X2.out)⟩; have HM2 := Lib.hid r2; have Y2 := Lib.hid (block_only (at_a0 w1 _ _) o2 (by have := HM.out.lt; have := k1.out.size; omega)); obtain ⟨q0, q1, q2, q3, q4, q5⟩ := cells6 (Y2.out); obtain ⟨qf0, qf1, qf2, qf3, qf4, qf5⟩ := frees6 (Y2.out); have hyb : R ≠ w1.heap.size := (by omega); have V2 := Lib.hid (((HV.out.below k1.out).alloc _).onlyT o2 (by omega)); have O2 := Lib.hid (((O.out.trans (Only.of_below k1.out)).trans (Only.of_below ((Below.refl _ _).alloc (Nat.le_refl _) _))).trans o2); clear r2 o2 x1) | (go_at_call 89; have _chk := k1; (with_reducible refine (PA.out w1 (HM.out.below k1.out)).mono ?_); rintro e w2 ⟨rfl, r2, o2⟩; have X2 := Lib.hid (block_only (block_below X.out k1.out) o2 (by omega)); have hx2 := (Array.getElem?_eq_some_iff.1 X2.out).1; have x2 : w2.cell? ⟨R, 0, none⟩ = some (.int .i64 v) ∧ w2.cell? ⟨R, 1, none⟩ = some (.int .u8 rv.toNat) ∧ w2.cell? ⟨R, 2, none⟩ = some (.int .u8 fl.toNat) := ⟨cell_at (j := 0) (X2.out), cell_at (j := 1) (X2.out), cell_at (j := 2) (X2.out)⟩; have HM2 := Lib.hid r2;  have x2z : (w2.alloc (.cells #[.string ⟨#[]⟩, .int .u8 0, .int .u8 0, .int .u8 0, .string ⟨#[]⟩, .int .i64 0] 47)).cell? ⟨R, 0, none⟩ = some (.int .i64 v) ∧ (w2.alloc (.cells #[.string ⟨#[]⟩, .int .u8 0, .int .u8 0, .int .u8 0, .string ⟨#[]⟩, .int .i64 0] 47)).cell? ⟨R, 1, none⟩ = some (.int .u8 rv.toNat) ∧ (w2.alloc (.cells #[.string ⟨#[]⟩, .int .u8 0, .int .u8 0, .int .u8 0, .string ⟨#[]⟩, .int .i64 0] 47)).cell? ⟨R, 2, none⟩ = some (.int .u8 fl.toNat) := keep3 (Below.refl _ w2) ((Below.refl _ _).alloc (Nat.le_refl _) _) hx2 x2; have x2a : (w2.alloc (.cells #[.string ⟨f.id.toArray⟩, .int .u8 f.st.toNat, .int .u8 f.fm.toNat, .int .u8 f.gr.toNat, .string ⟨f.bo.toArray⟩, .int .i64 f.pl] 47)).cell? ⟨R, 0, none⟩ = some (.int .i64 v) ∧ (w2.alloc (.cells #[.string ⟨f.id.toArray⟩, .int .u8 f.st.toNat, .int .u8 f.fm.toNat, .int .u8 f.gr.toNat, .string ⟨f.bo.toArray⟩, .int .i64 f.pl] 47)).cell? ⟨R, 1, none⟩ = some (.int .u8 rv.toNat) ∧ (w2.alloc (.cells #[.string ⟨f.id.toArray⟩, .int .u8 f.st.toNat, .int .u8 f.fm.toNat, .int .u8 f.gr.toNat, .string ⟨f.bo.toArray⟩, .int .i64 f.pl] 47)).cell? ⟨R, 2, none⟩ = some (.int .u8 fl.toNat) := keep3 (Below.refl _ w2) ((Below.refl _ _).alloc (Nat.le_refl _) _) hx2 x2; have V2 := Lib.hid ((HV.out.below k1.out).onlyT o2 (by omega)); have O2 := Lib.hid ((O.out.trans (Only.of_below k1.out)).trans o2); clear r2 o2 x1) | (go_at_call 23; (with_reducible refine (SP.out (World.drew wr)).mono ?_); rintro e w1 ⟨rfl, hb1⟩; have k1 := Lib.hid (fr_drewB hb1); have hx1 : R < w1.heap.size := Nat.lt_of_lt_of_le hxR k1.out.size; have x1 : w1.cell? ⟨R, 0, none⟩ = some (.int .i64 v) ∧ w1.cell? ⟨R, 1, none⟩ = some (.int .u8 rv.toNat) ∧ w1.cell? ⟨R, 2, none⟩ = some (.int .u8 fl.toNat) := ⟨cell_at (j := 0) (block_below X.out k1.out), cell_at (j := 1) (block_below X.out k1.out), cell_at (j := 2) (block_below X.out k1.out)⟩; have x1a : (w1.alloc (.cells #[.string ⟨#[]⟩, .int .u8 0, .int .u8 0, .int .u8 0, .string ⟨#[]⟩, .int .i64 0] 47)).cell? ⟨R, 0, none⟩ = some (.int .i64 v) ∧ (w1.alloc (.cells #[.string ⟨#[]⟩, .int .u8 0, .int .u8 0, .int .u8 0, .string ⟨#[]⟩, .int .i64 0] 47)).cell? ⟨R, 1, none⟩ = some (.int .u8 rv.toNat) ∧ (w1.alloc (.cells #[.string ⟨#[]⟩, .int .u8 0, .int .u8 0, .int .u8 0, .string ⟨#[]⟩, .int .i64 0] 47)).cell? ⟨R, 2, none⟩ = some (.int .u8 fl.toNat) := keep3 (Below.refl _ w1) ((Below.refl _ _).alloc (Nat.le_refl _) _) hx1 x1; clear hb1) | (go_at_call 23; (with_reducible refine (SP.out (World.drew (wr.alloc (.cells #[.string ⟨#[]⟩, .int .u8 0, .int .u8 0, .int .u8 0, .string ⟨#[]⟩, .int .i64 0] 47)))).mono ?_); rintro e w1 ⟨rfl, hb1⟩; have k1 := Lib.hid (below_a1 (fr_drewB hb1)); have Y1 := Lib.hid (block_below (at_a0 wr _ _) (fr_drewB hb1)); have hx1 : R < w1.heap.size := Nat.lt_of_lt_of_le hxR k1.out.size; have x1 : w1.cell? ⟨R, 0, none⟩ = some (.int .i64 v) ∧ w1.cell? ⟨R, 1, none⟩ = some (.int .u8 rv.toNat) ∧ w1.cell? ⟨R, 2, none⟩ = some (.int .u8 fl.toNat) := ⟨cell_at (j := 0) (block_below X.out k1.out), cell_at (j := 1) (block_below X.out k1.out), cell_at (j := 2) (block_below X.out k1.out)⟩; clear hb1))
      · skip
        have YQ := Lib.hid (at_a0 w2 #[.string ⟨f.id.toArray⟩, .int .u8 f.st.toNat, .int .u8 f.fm.toNat, .int .u8 f.gr.toNat, .string ⟨f.bo.toArray⟩, .int .i64 f.pl] 47)
        have XQ := Lib.hid (block_below X2.out ((Below.refl w2.heap.size w2).alloc (Nat.le_refl _) (.cells #[.string ⟨f.id.toArray⟩, .int .u8 f.st.toNat, .int .u8 f.fm.toNat, .int .u8 f.gr.toNat, .string ⟨f.bo.toArray⟩, .int .i64 f.pl] 47)))
        have RQ := Lib.hid (HM2.out.alloc (.cells #[.string ⟨f.id.toArray⟩, .int .u8 f.st.toNat, .int .u8 f.fm.toNat, .int .u8 f.gr.toNat, .string ⟨f.bo.toArray⟩, .int .i64 f.pl] 47))
        have VQ := Lib.hid (V2.out.alloc (.cells #[.string ⟨f.id.toArray⟩, .int .u8 f.st.toNat, .int .u8 f.fm.toNat, .int .u8 f.gr.toNat, .string ⟨f.bo.toArray⟩, .int .i64 f.pl] 47))
        have OQ := Lib.hid (O2.out.trans (Only.of_below ((Below.refl w2.heap.size w2).alloc (Nat.le_refl _) (.cells #[.string ⟨f.id.toArray⟩, .int .u8 f.st.toNat, .int .u8 f.fm.toNat, .int .u8 f.gr.toNat, .string ⟨f.bo.toArray⟩, .int .i64 f.pl] 47))))
        generalize w2.alloc (.cells #[.string ⟨f.id.toArray⟩, .int .u8 f.st.toNat, .int .u8 f.fm.toNat, .int .u8 f.gr.toNat, .string ⟨f.bo.toArray⟩, .int .i64 f.pl] 47) = v3 at *
        generalize w2.heap.size = yb at *
        clear X2 x2 hx2 HM2 V2 O2 k1 hx1 cc ccd cca HM HV X O hxR XQ YQ PA
        have AT := Lib.hid (fun w h => at_any b m' w h hok')
        have RS := Lib.hid (fun w h => rest_any b m' w h hok')
        have HPM : Hid (padM m' = if nzAt m'.rest.2 < m'.rest.2.length then m'.rest.1.fail 1 (m'.bs + m'.nx + (nzAt m'.rest.2 : Nat)) else m'.rest.1) := Lib.hid rfl
        have hsl := Nat.le_trans (take_le_text m' m'.left) hok'.2.1
        rw [show m'.take m'.left = m'.rest from rfl] at hsl
        have h1a := hok'.1
        have h1b := hok'.2.1
        have h1c := hok'.2.2.1
        have h1d := hok'.2.2.2
        have hat0 : 0 ≤ m'.bs + (m'.nx : Int) := by omega
        have hat1 : m'.bs + (m'.nx : Int) ≤ 4000000000000 := by omega
        clear h1a h1b h1c h1d hok' hbs'
        generalize m'.bs + (m'.nx : Int) = at0 at *
        generalize m'.rest.2 = s at *
        generalize m'.rest.1 = mr at *
        have FL := Lib.hid (fun p w h => fail_any b mr 1 p w h)
        go_wp2_with (first | (go_at_call 98; (with_reducible refine (AT.out _ RQ.out).mono ?_); rintro e wx ⟨rfl, rfl⟩) | (go_at_call 62; (with_reducible refine (RS.out _ RQ.out).mono ?_); rintro e w4 ⟨rfl, r4, o4⟩; replace VQ := Lib.hid (VQ.out.onlyT o4 (by omega)); replace OQ := Lib.hid (OQ.out.trans o4); replace RQ := Lib.hid r4; clear r4 o4))
        go_loop [39] (fun i => ∃ (j : Nat), j ≤ s.length ∧ i = .int .i64 j ∧ Hid (∀ x ∈ s.take j, (x != 0) = false)) (fun i => s.length - (intOf i).toNat)
        case atStart => exact ⟨0, by omega, rfl, Lib.hid (by simp)⟩
        case round =>
          obtain ⟨j, hj, rfl, HG⟩ := hrel
          by_cases hlt2 : j < s.length
          · have g0 : (j : Int) < s.length := by omega
            have hns := nz_step hlt2 HG.out
            have HJ := Lib.hid hlt2
            by_cases hz : s[j] = 0
            · have HG2 := Lib.hid (hns.1 hz)
              have t1 : ((s[j].toNat : Int) != 0) = false := by rw [hz]; rfl
              clear hns hz
              go_wp2
              go_round
              case rel => exact ⟨j + 1, by omega, by go_num, HG2⟩
              case measure => simp [intOf]; omega
            · have HN := Lib.hid (hns.2 hz)
              have t1 : ((s[j].toNat : Int) != 0) = true := by
                simp only [bne_iff_ne, ne_eq]
                intro e
                exact hz (by rw [u8_eq]; show s[j].toNat = 0; omega)
              clear hns hz
              go_wp2_with (go_at_call 94; (with_reducible refine (FL.out _ _ RQ.out).mono ?_); rintro e w5 ⟨rfl, r5, o5⟩; replace VQ := Lib.hid (VQ.out.onlyT o5 (by omega)); replace OQ := Lib.hid (OQ.out.trans o5); replace RQ := Lib.hid r5; clear r5 o5)
              go_ret
              refine ⟨_, rfl, ?_, ?_, OQ.out⟩
              · rw [HRES.out, ← HA.out, ← HRR.out]; exact VQ.out.base (by omega)
              · rw [HRES.out, ← HA.out]
                show RdAt _ b (padM m')
                rw [HPM.out, HN.out, if_pos HJ.out]
                exact RQ.out
          · have g0 : ¬ (j : Int) < s.length := by omega
            have hjn : j = s.length := by omega
            subst hjn
            have HN : Hid (¬ nzAt s < s.length) := Lib.hid (by
              have e0 := HG.out
              rw [List.take_length] at e0
              have : nzAt s = s.length := findIdx_none e0
              omega)
            go_wp2
            go_ret
            refine ⟨_, rfl, ?_, ?_, OQ.out⟩
            · rw [HRES.out, ← HA.out, ← HRR.out]; exact VQ.out.base (by omega)
            · rw [HRES.out, ← HA.out]
              show RdAt _ b (padM m')
              rw [HPM.out, if_neg HN.out]
              exact RQ.out
      · skip
        have o6 : Only (w1.heap.size) w2 ((((((w2.setCell ⟨w1.heap.size, 0, none⟩ (.string ⟨f.id.toArray⟩)).setCell ⟨w1.heap.size, 1, none⟩ (.int .u8 f.st.toNat)).setCell ⟨w1.heap.size, 2, none⟩ (.int .u8 f.fm.toNat)).setCell ⟨w1.heap.size, 3, none⟩ (.int .u8 f.gr.toNat)).setCell ⟨w1.heap.size, 4, none⟩ (.string ⟨f.bo.toArray⟩)).setCell ⟨w1.heap.size, 5, none⟩ (.int .i64 f.pl)) := (((((Only.set _).trans (Only.set _)).trans (Only.set _)).trans (Only.set _)).trans (Only.set _)).trans (Only.set _)
        have hle : wr.heap.size ≤ w1.heap.size := by have := k1.out.size; omega
        have hRw := HRR.out
        have hwr := O.out.size
        have YQ : Hid (((((((w2.setCell ⟨w1.heap.size, 0, none⟩ (.string ⟨f.id.toArray⟩)).setCell ⟨w1.heap.size, 1, none⟩ (.int .u8 f.st.toNat)).setCell ⟨w1.heap.size, 2, none⟩ (.int .u8 f.fm.toNat)).setCell ⟨w1.heap.size, 3, none⟩ (.int .u8 f.gr.toNat)).setCell ⟨w1.heap.size, 4, none⟩ (.string ⟨f.bo.toArray⟩)).setCell ⟨w1.heap.size, 5, none⟩ (.int .i64 f.pl)).heap[w1.heap.size]? = some (.cells #[.string ⟨f.id.toArray⟩, .int .u8 f.st.toNat, .int .u8 f.fm.toNat, .int .u8 f.gr.toNat, .string ⟨f.bo.toArray⟩, .int .i64 f.pl] 47 (0, 0))) := Lib.hid (store6 Y2.out rfl)
        have XQ := Lib.hid (block_only X2.out o6 hyb)
        have RQ := Lib.hid (HM2.out.only o6 (by omega))
        have VQ := Lib.hid (V2.out.kept (row := some (w1.heap.size)) o6 (by by_cases hn : u5.ownBlock = none; exact .inl hn; right; intro e; have := (HV.out.lt _ e).2; omega))
        have OQ := Lib.hid (O2.out.other o6 (.inr (by omega)))
        clear o6 hRw q0 q1 q2 q3 q4 q5 qf0 qf1 qf2 qf3 qf4 qf5 Y2
        generalize ((((((w2.setCell ⟨w1.heap.size, 0, none⟩ (.string ⟨f.id.toArray⟩)).setCell ⟨w1.heap.size, 1, none⟩ (.int .u8 f.st.toNat)).setCell ⟨w1.heap.size, 2, none⟩ (.int .u8 f.fm.toNat)).setCell ⟨w1.heap.size, 3, none⟩ (.int .u8 f.gr.toNat)).setCell ⟨w1.heap.size, 4, none⟩ (.string ⟨f.bo.toArray⟩)).setCell ⟨w1.heap.size, 5, none⟩ (.int .i64 f.pl)) = v3 at *
        generalize hye : w1.heap.size = yb at *
        clear hye hle
        clear X2 x2 hx2 HM2 V2 O2 k1 hx1 cc ccd cca HM HV X O hxR XQ YQ PA
        have AT := Lib.hid (fun w h => at_any b m' w h hok')
        have RS := Lib.hid (fun w h => rest_any b m' w h hok')
        have HPM : Hid (padM m' = if nzAt m'.rest.2 < m'.rest.2.length then m'.rest.1.fail 1 (m'.bs + m'.nx + (nzAt m'.rest.2 : Nat)) else m'.rest.1) := Lib.hid rfl
        have hsl := Nat.le_trans (take_le_text m' m'.left) hok'.2.1
        rw [show m'.take m'.left = m'.rest from rfl] at hsl
        have h1a := hok'.1
        have h1b := hok'.2.1
        have h1c := hok'.2.2.1
        have h1d := hok'.2.2.2
        have hat0 : 0 ≤ m'.bs + (m'.nx : Int) := by omega
        have hat1 : m'.bs + (m'.nx : Int) ≤ 4000000000000 := by omega
        clear h1a h1b h1c h1d hok' hbs'
        generalize m'.bs + (m'.nx : Int) = at0 at *
        generalize m'.rest.2 = s at *
        generalize m'.rest.1 = mr at *
        have FL := Lib.hid (fun p w h => fail_any b mr 1 p w h)
        go_wp2_with (first | (go_at_call 98; (with_reducible refine (AT.out _ RQ.out).mono ?_); rintro e wx ⟨rfl, rfl⟩) | (go_at_call 62; (with_reducible refine (RS.out _ RQ.out).mono ?_); rintro e w4 ⟨rfl, r4, o4⟩; replace VQ := Lib.hid (VQ.out.onlyT o4 (by omega)); replace OQ := Lib.hid (OQ.out.trans o4); replace RQ := Lib.hid r4; clear r4 o4))
        go_loop [39] (fun i => ∃ (j : Nat), j ≤ s.length ∧ i = .int .i64 j ∧ Hid (∀ x ∈ s.take j, (x != 0) = false)) (fun i => s.length - (intOf i).toNat)
        case atStart => exact ⟨0, by omega, rfl, Lib.hid (by simp)⟩
        case round =>
          obtain ⟨j, hj, rfl, HG⟩ := hrel
          by_cases hlt2 : j < s.length
          · have g0 : (j : Int) < s.length := by omega
            have hns := nz_step hlt2 HG.out
            have HJ := Lib.hid hlt2
            by_cases hz : s[j] = 0
            · have HG2 := Lib.hid (hns.1 hz)
              have t1 : ((s[j].toNat : Int) != 0) = false := by rw [hz]; rfl
              clear hns hz
              go_wp2
              go_round
              case rel => exact ⟨j + 1, by omega, by go_num, HG2⟩
              case measure => simp [intOf]; omega
            · have HN := Lib.hid (hns.2 hz)
              have t1 : ((s[j].toNat : Int) != 0) = true := by
                simp only [bne_iff_ne, ne_eq]
                intro e
                exact hz (by rw [u8_eq]; show s[j].toNat = 0; omega)
              clear hns hz
              go_wp2_with (go_at_call 94; (with_reducible refine (FL.out _ _ RQ.out).mono ?_); rintro e w5 ⟨rfl, r5, o5⟩; replace VQ := Lib.hid (VQ.out.onlyT o5 (by omega)); replace OQ := Lib.hid (OQ.out.trans o5); replace RQ := Lib.hid r5; clear r5 o5)
              go_ret
              refine ⟨_, rfl, ?_, ?_, OQ.out⟩
              · rw [HRES.out, ← HA.out, ← HRR.out]; exact VQ.out.base (by omega)
              · rw [HRES.out, ← HA.out]
                show RdAt _ b (padM m')
                rw [HPM.out, HN.out, if_pos HJ.out]
                exact RQ.out
          · have g0 : ¬ (j : Int) < s.length := by omega
            have hjn : j = s.length := by omega
            subst hjn
            have HN : Hid (¬ nzAt s < s.length) := Lib.hid (by
              have e0 := HG.out
              rw [List.take_length] at e0
              have : nzAt s = s.length := findIdx_none e0
              omega)
            go_wp2
            go_ret
            refine ⟨_, rfl, ?_, ?_, OQ.out⟩
            · rw [HRES.out, ← HA.out, ← HRR.out]; exact VQ.out.base (by omega)
            · rw [HRES.out, ← HA.out]
              show RdAt _ b (padM m')
              rw [HPM.out, if_neg HN.out]
              exact RQ.out
      · skip
        have o6 : Only (wr.heap.size) w2 ((((((w2.setCell ⟨wr.heap.size, 0, none⟩ (.string ⟨f.id.toArray⟩)).setCell ⟨wr.heap.size, 1, none⟩ (.int .u8 f.st.toNat)).setCell ⟨wr.heap.size, 2, none⟩ (.int .u8 f.fm.toNat)).setCell ⟨wr.heap.size, 3, none⟩ (.int .u8 f.gr.toNat)).setCell ⟨wr.heap.size, 4, none⟩ (.string ⟨f.bo.toArray⟩)).setCell ⟨wr.heap.size, 5, none⟩ (.int .i64 f.pl)) := (((((Only.set _).trans (Only.set _)).trans (Only.set _)).trans (Only.set _)).trans (Only.set _)).trans (Only.set _)
        have hle : wr.heap.size ≤ wr.heap.size := by have := k1.out.size; omega
        have hRw := HRR.out
        have hwr := O.out.size
        have YQ : Hid (((((((w2.setCell ⟨wr.heap.size, 0, none⟩ (.string ⟨f.id.toArray⟩)).setCell ⟨wr.heap.size, 1, none⟩ (.int .u8 f.st.toNat)).setCell ⟨wr.heap.size, 2, none⟩ (.int .u8 f.fm.toNat)).setCell ⟨wr.heap.size, 3, none⟩ (.int .u8 f.gr.toNat)).setCell ⟨wr.heap.size, 4, none⟩ (.string ⟨f.bo.toArray⟩)).setCell ⟨wr.heap.size, 5, none⟩ (.int .i64 f.pl)).heap[wr.heap.size]? = some (.cells #[.string ⟨f.id.toArray⟩, .int .u8 f.st.toNat, .int .u8 f.fm.toNat, .int .u8 f.gr.toNat, .string ⟨f.bo.toArray⟩, .int .i64 f.pl] 47 (0, 0))) := Lib.hid (store6 Y2.out rfl)
        have XQ := Lib.hid (block_only X2.out o6 hyb)
        have RQ := Lib.hid (HM2.out.only o6 (by omega))
        have VQ := Lib.hid (V2.out.kept (row := some (wr.heap.size)) o6 (by by_cases hn : u5.ownBlock = none; exact .inl hn; right; intro e; have := (HV.out.lt _ e).2; omega))
        have OQ := Lib.hid (O2.out.other o6 (.inr (by omega)))
        clear o6 hRw q0 q1 q2 q3 q4 q5 qf0 qf1 qf2 qf3 qf4 qf5 Y2
        generalize ((((((w2.setCell ⟨wr.heap.size, 0, none⟩ (.string ⟨f.id.toArray⟩)).setCell ⟨wr.heap.size, 1, none⟩ (.int .u8 f.st.toNat)).setCell ⟨wr.heap.size, 2, none⟩ (.int .u8 f.fm.toNat)).setCell ⟨wr.heap.size, 3, none⟩ (.int .u8 f.gr.toNat)).setCell ⟨wr.heap.size, 4, none⟩ (.string ⟨f.bo.toArray⟩)).setCell ⟨wr.heap.size, 5, none⟩ (.int .i64 f.pl)) = v3 at *
        generalize hye : wr.heap.size = yb at *
        clear hye hle
        clear X2 x2 hx2 HM2 V2 O2 k1 hx1 cc ccd cca HM HV X O hxR XQ YQ PA
        have AT := Lib.hid (fun w h => at_any b m' w h hok')
        have RS := Lib.hid (fun w h => rest_any b m' w h hok')
        have HPM : Hid (padM m' = if nzAt m'.rest.2 < m'.rest.2.length then m'.rest.1.fail 1 (m'.bs + m'.nx + (nzAt m'.rest.2 : Nat)) else m'.rest.1) := Lib.hid rfl
        have hsl := Nat.le_trans (take_le_text m' m'.left) hok'.2.1
        rw [show m'.take m'.left = m'.rest from rfl] at hsl
        have h1a := hok'.1
        have h1b := hok'.2.1
        have h1c := hok'.2.2.1
        have h1d := hok'.2.2.2
        have hat0 : 0 ≤ m'.bs + (m'.nx : Int) := by omega
        have hat1 : m'.bs + (m'.nx : Int) ≤ 4000000000000 := by omega
        clear h1a h1b h1c h1d hok' hbs'
        generalize m'.bs + (m'.nx : Int) = at0 at *
        generalize m'.rest.2 = s at *
        generalize m'.rest.1 = mr at *
        have FL := Lib.hid (fun p w h => fail_any b mr 1 p w h)
        go_wp2_with (first | (go_at_call 98; (with_reducible refine (AT.out _ RQ.out).mono ?_); rintro e wx ⟨rfl, rfl⟩) | (go_at_call 62; (with_reducible refine (RS.out _ RQ.out).mono ?_); rintro e w4 ⟨rfl, r4, o4⟩; replace VQ := Lib.hid (VQ.out.onlyT o4 (by omega)); replace OQ := Lib.hid (OQ.out.trans o4); replace RQ := Lib.hid r4; clear r4 o4))
        go_loop [39] (fun i => ∃ (j : Nat), j ≤ s.length ∧ i = .int .i64 j ∧ Hid (∀ x ∈ s.take j, (x != 0) = false)) (fun i => s.length - (intOf i).toNat)
        case atStart => exact ⟨0, by omega, rfl, Lib.hid (by simp)⟩
        case round =>
          obtain ⟨j, hj, rfl, HG⟩ := hrel
          by_cases hlt2 : j < s.length
          · have g0 : (j : Int) < s.length := by omega
            have hns := nz_step hlt2 HG.out
            have HJ := Lib.hid hlt2
            by_cases hz : s[j] = 0
            · have HG2 := Lib.hid (hns.1 hz)
              have t1 : ((s[j].toNat : Int) != 0) = false := by rw [hz]; rfl
              clear hns hz
              go_wp2
              go_round
              case rel => exact ⟨j + 1, by omega, by go_num, HG2⟩
              case measure => simp [intOf]; omega
            · have HN := Lib.hid (hns.2 hz)
              have t1 : ((s[j].toNat : Int) != 0) = true := by
                simp only [bne_iff_ne, ne_eq]
                intro e
                exact hz (by rw [u8_eq]; show s[j].toNat = 0; omega)
              clear hns hz
              go_wp2_with (go_at_call 94; (with_reducible refine (FL.out _ _ RQ.out).mono ?_); rintro e w5 ⟨rfl, r5, o5⟩; replace VQ := Lib.hid (VQ.out.onlyT o5 (by omega)); replace OQ := Lib.hid (OQ.out.trans o5); replace RQ := Lib.hid r5; clear r5 o5)
              go_ret
              refine ⟨_, rfl, ?_, ?_, OQ.out⟩
              · rw [HRES.out, ← HA.out, ← HRR.out]; exact VQ.out.base (by omega)
              · rw [HRES.out, ← HA.out]
                show RdAt _ b (padM m')
                rw [HPM.out, HN.out, if_pos HJ.out]
                exact RQ.out
          · have g0 : ¬ (j : Int) < s.length := by omega
            have hjn : j = s.length := by omega
            subst hjn
            have HN : Hid (¬ nzAt s < s.length) := Lib.hid (by
              have e0 := HG.out
              rw [List.take_length] at e0
              have : nzAt s = s.length := findIdx_none e0
              omega)
            go_wp2
            go_ret
            refine ⟨_, rfl, ?_, ?_, OQ.out⟩
            · rw [HRES.out, ← HA.out, ← HRR.out]; exact VQ.out.base (by omega)
            · rw [HRES.out, ← HA.out]
              show RdAt _ b (padM m')
              rw [HPM.out, if_neg HN.out]
              exact RQ.out
    · rw [if_pos rfl] at hA
      have HA := Lib.hid hA
      obtain ⟨ht1, hb1, hn1, hn2, hok⟩ := hon rfl
      obtain ⟨a1, cap1, hv1, hcap1, _⟩ := HV.out.at
      rw [List.length_map] at hv1
      subst hv1
      have hmnx := hm.1
      have hpl2 : ((fs.length : Int) == 4096) = false := by simp; omega
      have HT1 := Lib.hid ht1
      have HBS1 := Lib.hid hb1
      clear hA hon hst hcap1 ht1 hb1
      go_upto_region 2 with (fail)
      go_region_held3 (fun w' => w'.cell? ⟨R, 0, none⟩ = some (.int .i64 v) ∧ w'.cell? ⟨R, 1, none⟩ = some (.int .u8 rv.toNat) ∧ w'.cell? ⟨R, 2, none⟩ = some (.int .u8 fl.toNat)) (first | with_reducible exact ccd | with_reducible exact cca | with_reducible exact x1 | with_reducible exact x1a | with_reducible exact x2 | with_reducible exact x2z | with_reducible exact x2a | with_reducible exact keepS hyb (keepS hyb (keepS hyb (keepS hyb (keepS hyb (keepS hyb x2))))) | fail)
        (first | (go_at_call 89; have _chk := k1; have _ch2 := Y1; (with_reducible refine (PA.out w1 (HM.out.below k1.out)).mono ?_); rintro e w2 ⟨rfl, r2, o2⟩; have X2 := Lib.hid (block_only (block_below X.out k1.out) o2 (by omega)); have hx2 := (Array.getElem?_eq_some_iff.1 X2.out).1; have x2 : w2.cell? ⟨R, 0, none⟩ = some (.int .i64 v) ∧ w2.cell? ⟨R, 1, none⟩ = some (.int .u8 rv.toNat) ∧ w2.cell? ⟨R, 2, none⟩ = some (.int .u8 fl.toNat) := ⟨cell_at (j := 0) (X2.out), cell_at (j := 1) (X2.out), cell_at (j := 2) (X2.out)⟩; have HM2 := Lib.hid r2; have Y2 := Lib.hid (block_only Y1.out o2 (by have := HM.out.lt; show wr.heap.size ≠ b; omega)); obtain ⟨q0, q1, q2, q3, q4, q5⟩ := cells6 (Y2.out); obtain ⟨qf0, qf1, qf2, qf3, qf4, qf5⟩ := frees6 (Y2.out); have hyb : R ≠ wr.heap.size := (by omega); have V2 := Lib.hid ((HV.out.below k1.out).onlyT o2 (by omega)); have O2 := Lib.hid ((O.out.trans (Only.of_below k1.out)).trans o2); clear r2 o2 x1) | (go_at_call 89; have _chk := k1; (with_reducible refine (PA.out (w1.alloc (.cells #[.string ⟨#[]⟩, .int .u8 0, .int .u8 0, .int .u8 0, .string ⟨#[]⟩, .int .i64 0] 47)) ((HM.out.below k1.out).alloc _)).mono ?_); rintro e w2 ⟨rfl, r2, o2⟩; have X2 := Lib.hid (block_only (block_below (block_below X.out k1.out) ((Below.refl _ _).alloc (Nat.le_refl _) _)) o2 (by omega)); have hx2 := (Array.getElem?_eq_some_iff.1 X2.out).1; have x2 : w2.cell? ⟨R, 0, none⟩ = some (.int .i64 v) ∧ w2.cell? ⟨R, 1, none⟩ = some (.int .u8 rv.toNat) ∧ w2.cell? ⟨R, 2, none⟩ = some (.int .u8 fl.toNat) := ⟨cell_at (j := 0) (X2.out), cell_at (j := 1) (X2.out), cell_at (j := 2) (X2.out)⟩; have HM2 := Lib.hid r2; have Y2 := Lib.hid (block_only (at_a0 w1 _ _) o2 (by have := HM.out.lt; have := k1.out.size; omega)); obtain ⟨q0, q1, q2, q3, q4, q5⟩ := cells6 (Y2.out); obtain ⟨qf0, qf1, qf2, qf3, qf4, qf5⟩ := frees6 (Y2.out); have hyb : R ≠ w1.heap.size := (by omega); have V2 := Lib.hid (((HV.out.below k1.out).alloc _).onlyT o2 (by omega)); have O2 := Lib.hid (((O.out.trans (Only.of_below k1.out)).trans (Only.of_below ((Below.refl _ _).alloc (Nat.le_refl _) _))).trans o2); clear r2 o2 x1) | (go_at_call 89; have _chk := k1; (with_reducible refine (PA.out w1 (HM.out.below k1.out)).mono ?_); rintro e w2 ⟨rfl, r2, o2⟩; have X2 := Lib.hid (block_only (block_below X.out k1.out) o2 (by omega)); have hx2 := (Array.getElem?_eq_some_iff.1 X2.out).1; have x2 : w2.cell? ⟨R, 0, none⟩ = some (.int .i64 v) ∧ w2.cell? ⟨R, 1, none⟩ = some (.int .u8 rv.toNat) ∧ w2.cell? ⟨R, 2, none⟩ = some (.int .u8 fl.toNat) := ⟨cell_at (j := 0) (X2.out), cell_at (j := 1) (X2.out), cell_at (j := 2) (X2.out)⟩; have HM2 := Lib.hid r2;  have x2z : (w2.alloc (.cells #[.string ⟨#[]⟩, .int .u8 0, .int .u8 0, .int .u8 0, .string ⟨#[]⟩, .int .i64 0] 47)).cell? ⟨R, 0, none⟩ = some (.int .i64 v) ∧ (w2.alloc (.cells #[.string ⟨#[]⟩, .int .u8 0, .int .u8 0, .int .u8 0, .string ⟨#[]⟩, .int .i64 0] 47)).cell? ⟨R, 1, none⟩ = some (.int .u8 rv.toNat) ∧ (w2.alloc (.cells #[.string ⟨#[]⟩, .int .u8 0, .int .u8 0, .int .u8 0, .string ⟨#[]⟩, .int .i64 0] 47)).cell? ⟨R, 2, none⟩ = some (.int .u8 fl.toNat) := keep3 (Below.refl _ w2) ((Below.refl _ _).alloc (Nat.le_refl _) _) hx2 x2; have x2a : (w2.alloc (.cells #[.string ⟨f.id.toArray⟩, .int .u8 f.st.toNat, .int .u8 f.fm.toNat, .int .u8 f.gr.toNat, .string ⟨f.bo.toArray⟩, .int .i64 f.pl] 47)).cell? ⟨R, 0, none⟩ = some (.int .i64 v) ∧ (w2.alloc (.cells #[.string ⟨f.id.toArray⟩, .int .u8 f.st.toNat, .int .u8 f.fm.toNat, .int .u8 f.gr.toNat, .string ⟨f.bo.toArray⟩, .int .i64 f.pl] 47)).cell? ⟨R, 1, none⟩ = some (.int .u8 rv.toNat) ∧ (w2.alloc (.cells #[.string ⟨f.id.toArray⟩, .int .u8 f.st.toNat, .int .u8 f.fm.toNat, .int .u8 f.gr.toNat, .string ⟨f.bo.toArray⟩, .int .i64 f.pl] 47)).cell? ⟨R, 2, none⟩ = some (.int .u8 fl.toNat) := keep3 (Below.refl _ w2) ((Below.refl _ _).alloc (Nat.le_refl _) _) hx2 x2; have V2 := Lib.hid ((HV.out.below k1.out).onlyT o2 (by omega)); have O2 := Lib.hid ((O.out.trans (Only.of_below k1.out)).trans o2); clear r2 o2 x1) | (go_at_call 23; (with_reducible refine (SP.out (World.drew wr)).mono ?_); rintro e w1 ⟨rfl, hb1⟩; have k1 := Lib.hid (fr_drewB hb1); have hx1 : R < w1.heap.size := Nat.lt_of_lt_of_le hxR k1.out.size; have x1 : w1.cell? ⟨R, 0, none⟩ = some (.int .i64 v) ∧ w1.cell? ⟨R, 1, none⟩ = some (.int .u8 rv.toNat) ∧ w1.cell? ⟨R, 2, none⟩ = some (.int .u8 fl.toNat) := ⟨cell_at (j := 0) (block_below X.out k1.out), cell_at (j := 1) (block_below X.out k1.out), cell_at (j := 2) (block_below X.out k1.out)⟩; have x1a : (w1.alloc (.cells #[.string ⟨#[]⟩, .int .u8 0, .int .u8 0, .int .u8 0, .string ⟨#[]⟩, .int .i64 0] 47)).cell? ⟨R, 0, none⟩ = some (.int .i64 v) ∧ (w1.alloc (.cells #[.string ⟨#[]⟩, .int .u8 0, .int .u8 0, .int .u8 0, .string ⟨#[]⟩, .int .i64 0] 47)).cell? ⟨R, 1, none⟩ = some (.int .u8 rv.toNat) ∧ (w1.alloc (.cells #[.string ⟨#[]⟩, .int .u8 0, .int .u8 0, .int .u8 0, .string ⟨#[]⟩, .int .i64 0] 47)).cell? ⟨R, 2, none⟩ = some (.int .u8 fl.toNat) := keep3 (Below.refl _ w1) ((Below.refl _ _).alloc (Nat.le_refl _) _) hx1 x1; clear hb1) | (go_at_call 23; (with_reducible refine (SP.out (World.drew (wr.alloc (.cells #[.string ⟨#[]⟩, .int .u8 0, .int .u8 0, .int .u8 0, .string ⟨#[]⟩, .int .i64 0] 47)))).mono ?_); rintro e w1 ⟨rfl, hb1⟩; have k1 := Lib.hid (below_a1 (fr_drewB hb1)); have Y1 := Lib.hid (block_below (at_a0 wr _ _) (fr_drewB hb1)); have hx1 : R < w1.heap.size := Nat.lt_of_lt_of_le hxR k1.out.size; have x1 : w1.cell? ⟨R, 0, none⟩ = some (.int .i64 v) ∧ w1.cell? ⟨R, 1, none⟩ = some (.int .u8 rv.toNat) ∧ w1.cell? ⟨R, 2, none⟩ = some (.int .u8 fl.toNat) := ⟨cell_at (j := 0) (block_below X.out k1.out), cell_at (j := 1) (block_below X.out k1.out), cell_at (j := 2) (block_below X.out k1.out)⟩; clear hb1))
      · skip
        have YQ := Lib.hid (at_a0 w2 #[.string ⟨f.id.toArray⟩, .int .u8 f.st.toNat, .int .u8 f.fm.toNat, .int .u8 f.gr.toNat, .string ⟨f.bo.toArray⟩, .int .i64 f.pl] 47)
        have XQ := Lib.hid (block_below X2.out ((Below.refl w2.heap.size w2).alloc (Nat.le_refl _) (.cells #[.string ⟨f.id.toArray⟩, .int .u8 f.st.toNat, .int .u8 f.fm.toNat, .int .u8 f.gr.toNat, .string ⟨f.bo.toArray⟩, .int .i64 f.pl] 47)))
        have RQ := Lib.hid (HM2.out.alloc (.cells #[.string ⟨f.id.toArray⟩, .int .u8 f.st.toNat, .int .u8 f.fm.toNat, .int .u8 f.gr.toNat, .string ⟨f.bo.toArray⟩, .int .i64 f.pl] 47))
        have VQ := Lib.hid (V2.out.alloc (.cells #[.string ⟨f.id.toArray⟩, .int .u8 f.st.toNat, .int .u8 f.fm.toNat, .int .u8 f.gr.toNat, .string ⟨f.bo.toArray⟩, .int .i64 f.pl] 47))
        have OQ := Lib.hid (O2.out.trans (Only.of_below ((Below.refl w2.heap.size w2).alloc (Nat.le_refl _) (.cells #[.string ⟨f.id.toArray⟩, .int .u8 f.st.toNat, .int .u8 f.fm.toNat, .int .u8 f.gr.toNat, .string ⟨f.bo.toArray⟩, .int .i64 f.pl] 47))))
        generalize w2.alloc (.cells #[.string ⟨f.id.toArray⟩, .int .u8 f.st.toNat, .int .u8 f.fm.toNat, .int .u8 f.gr.toNat, .string ⟨f.bo.toArray⟩, .int .i64 f.pl] 47) = v3 at *
        generalize w2.heap.size = yb at *
        clear X2 x2 hx2 HM2 V2 O2 k1 hx1 cc ccd cca HM HV X O hxR PA
        obtain ⟨y0, y1, y2, y3, y4, y5⟩ := cells6 (YQ.out)
        go_wp2_with (at_builtin; refine wpList_pushR v3 rfl (.tmp 29) (.tmp 31) 24 rfl (R + 1) 47 6 56 _ Try.underlying24 info_frame rfl (by decide) (by decide) _ (fs.map frR) (frR f) _ (by rfl) rfl (one_frR f) (by rfl) VQ.out (by rfl) (by rw [List.length_map]; omega) (by have := OQ.out.size; have := HRR.out; have := (Array.getElem?_eq_some_iff.1 XQ.out).1; omega) _ ?_; intro v5 w5 hr5 hg5; have hl5 := VQ.out.lt; have V5 := Lib.hid hr5; have R5 : Hid (RdAt w5 b m') := Lib.hid (block_grown RQ.out hg5 (fun k e => (hl5 k e).1) (by omega)); have X5 := Lib.hid (block_grown XQ.out hg5 (fun k e => (hl5 k e).1) (by omega)); have O5 := Lib.hid (OQ.out.grownT hg5 (fun k e => by have := (hl5 k e).1; have := HRR.out; omega)); clear hl5 hr5 hg5)
        go_roundg g
        case measure => omega
        case rel =>
          refine ⟨m', fs ++ [f], hok, by rw [HBS1.out]; exact hb, by rw [HT1.out]; exact ht, by rw [HT1.out]; omega, by rw [List.length_append]; simp; omega, HA, R5, ?_, X5, O5⟩
          rw [List.map_append]; exact V5
      · skip
        have o6 : Only (w1.heap.size) w2 ((((((w2.setCell ⟨w1.heap.size, 0, none⟩ (.string ⟨f.id.toArray⟩)).setCell ⟨w1.heap.size, 1, none⟩ (.int .u8 f.st.toNat)).setCell ⟨w1.heap.size, 2, none⟩ (.int .u8 f.fm.toNat)).setCell ⟨w1.heap.size, 3, none⟩ (.int .u8 f.gr.toNat)).setCell ⟨w1.heap.size, 4, none⟩ (.string ⟨f.bo.toArray⟩)).setCell ⟨w1.heap.size, 5, none⟩ (.int .i64 f.pl)) := (((((Only.set _).trans (Only.set _)).trans (Only.set _)).trans (Only.set _)).trans (Only.set _)).trans (Only.set _)
        have hle : wr.heap.size ≤ w1.heap.size := by have := k1.out.size; omega
        have hRw := HRR.out
        have hwr := O.out.size
        have YQ : Hid (((((((w2.setCell ⟨w1.heap.size, 0, none⟩ (.string ⟨f.id.toArray⟩)).setCell ⟨w1.heap.size, 1, none⟩ (.int .u8 f.st.toNat)).setCell ⟨w1.heap.size, 2, none⟩ (.int .u8 f.fm.toNat)).setCell ⟨w1.heap.size, 3, none⟩ (.int .u8 f.gr.toNat)).setCell ⟨w1.heap.size, 4, none⟩ (.string ⟨f.bo.toArray⟩)).setCell ⟨w1.heap.size, 5, none⟩ (.int .i64 f.pl)).heap[w1.heap.size]? = some (.cells #[.string ⟨f.id.toArray⟩, .int .u8 f.st.toNat, .int .u8 f.fm.toNat, .int .u8 f.gr.toNat, .string ⟨f.bo.toArray⟩, .int .i64 f.pl] 47 (0, 0))) := Lib.hid (store6 Y2.out rfl)
        have XQ := Lib.hid (block_only X2.out o6 hyb)
        have RQ := Lib.hid (HM2.out.only o6 (by omega))
        have VQ := Lib.hid (V2.out.kept (row := some (w1.heap.size)) o6 (by by_cases hn : (Value.slice a1 fs.length cap1).ownBlock = none; exact .inl hn; right; intro e; have := (HV.out.lt _ e).2; omega))
        have OQ := Lib.hid (O2.out.other o6 (.inr (by omega)))
        clear o6 hRw q0 q1 q2 q3 q4 q5 qf0 qf1 qf2 qf3 qf4 qf5 Y2
        generalize ((((((w2.setCell ⟨w1.heap.size, 0, none⟩ (.string ⟨f.id.toArray⟩)).setCell ⟨w1.heap.size, 1, none⟩ (.int .u8 f.st.toNat)).setCell ⟨w1.heap.size, 2, none⟩ (.int .u8 f.fm.toNat)).setCell ⟨w1.heap.size, 3, none⟩ (.int .u8 f.gr.toNat)).setCell ⟨w1.heap.size, 4, none⟩ (.string ⟨f.bo.toArray⟩)).setCell ⟨w1.heap.size, 5, none⟩ (.int .i64 f.pl)) = v3 at *
        generalize hye : w1.heap.size = yb at *
        clear hye hle
        clear X2 x2 hx2 HM2 V2 O2 k1 hx1 cc ccd cca HM HV X O hxR PA
        obtain ⟨y0, y1, y2, y3, y4, y5⟩ := cells6 (YQ.out)
        go_wp2_with (at_builtin; refine wpList_pushR v3 rfl (.tmp 29) (.tmp 31) 24 rfl (R + 1) 47 6 56 _ Try.underlying24 info_frame rfl (by decide) (by decide) _ (fs.map frR) (frR f) _ (by rfl) rfl (one_frR f) (by rfl) VQ.out (by rfl) (by rw [List.length_map]; omega) (by have := OQ.out.size; have := HRR.out; have := (Array.getElem?_eq_some_iff.1 XQ.out).1; omega) _ ?_; intro v5 w5 hr5 hg5; have hl5 := VQ.out.lt; have V5 := Lib.hid hr5; have R5 : Hid (RdAt w5 b m') := Lib.hid (block_grown RQ.out hg5 (fun k e => (hl5 k e).1) (by omega)); have X5 := Lib.hid (block_grown XQ.out hg5 (fun k e => (hl5 k e).1) (by omega)); have O5 := Lib.hid (OQ.out.grownT hg5 (fun k e => by have := (hl5 k e).1; have := HRR.out; omega)); clear hl5 hr5 hg5)
        go_roundg g
        case measure => omega
        case rel =>
          refine ⟨m', fs ++ [f], hok, by rw [HBS1.out]; exact hb, by rw [HT1.out]; exact ht, by rw [HT1.out]; omega, by rw [List.length_append]; simp; omega, HA, R5, ?_, X5, O5⟩
          rw [List.map_append]; exact V5
      · skip
        have o6 : Only (wr.heap.size) w2 ((((((w2.setCell ⟨wr.heap.size, 0, none⟩ (.string ⟨f.id.toArray⟩)).setCell ⟨wr.heap.size, 1, none⟩ (.int .u8 f.st.toNat)).setCell ⟨wr.heap.size, 2, none⟩ (.int .u8 f.fm.toNat)).setCell ⟨wr.heap.size, 3, none⟩ (.int .u8 f.gr.toNat)).setCell ⟨wr.heap.size, 4, none⟩ (.string ⟨f.bo.toArray⟩)).setCell ⟨wr.heap.size, 5, none⟩ (.int .i64 f.pl)) := (((((Only.set _).trans (Only.set _)).trans (Only.set _)).trans (Only.set _)).trans (Only.set _)).trans (Only.set _)
        have hle : wr.heap.size ≤ wr.heap.size := by have := k1.out.size; omega
        have hRw := HRR.out
        have hwr := O.out.size
        have YQ : Hid (((((((w2.setCell ⟨wr.heap.size, 0, none⟩ (.string ⟨f.id.toArray⟩)).setCell ⟨wr.heap.size, 1, none⟩ (.int .u8 f.st.toNat)).setCell ⟨wr.heap.size, 2, none⟩ (.int .u8 f.fm.toNat)).setCell ⟨wr.heap.size, 3, none⟩ (.int .u8 f.gr.toNat)).setCell ⟨wr.heap.size, 4, none⟩ (.string ⟨f.bo.toArray⟩)).setCell ⟨wr.heap.size, 5, none⟩ (.int .i64 f.pl)).heap[wr.heap.size]? = some (.cells #[.string ⟨f.id.toArray⟩, .int .u8 f.st.toNat, .int .u8 f.fm.toNat, .int .u8 f.gr.toNat, .string ⟨f.bo.toArray⟩, .int .i64 f.pl] 47 (0, 0))) := Lib.hid (store6 Y2.out rfl)
        have XQ := Lib.hid (block_only X2.out o6 hyb)
        have RQ := Lib.hid (HM2.out.only o6 (by omega))
        have VQ := Lib.hid (V2.out.kept (row := some (wr.heap.size)) o6 (by by_cases hn : (Value.slice a1 fs.length cap1).ownBlock = none; exact .inl hn; right; intro e; have := (HV.out.lt _ e).2; omega))
        have OQ := Lib.hid (O2.out.other o6 (.inr (by omega)))
        clear o6 hRw q0 q1 q2 q3 q4 q5 qf0 qf1 qf2 qf3 qf4 qf5 Y2
        generalize ((((((w2.setCell ⟨wr.heap.size, 0, none⟩ (.string ⟨f.id.toArray⟩)).setCell ⟨wr.heap.size, 1, none⟩ (.int .u8 f.st.toNat)).setCell ⟨wr.heap.size, 2, none⟩ (.int .u8 f.fm.toNat)).setCell ⟨wr.heap.size, 3, none⟩ (.int .u8 f.gr.toNat)).setCell ⟨wr.heap.size, 4, none⟩ (.string ⟨f.bo.toArray⟩)).setCell ⟨wr.heap.size, 5, none⟩ (.int .i64 f.pl)) = v3 at *
        generalize hye : wr.heap.size = yb at *
        clear hye hle
        clear X2 x2 hx2 HM2 V2 O2 k1 hx1 cc ccd cca HM HV X O hxR PA
        obtain ⟨y0, y1, y2, y3, y4, y5⟩ := cells6 (YQ.out)
        go_wp2_with (at_builtin; refine wpList_pushR v3 rfl (.tmp 29) (.tmp 31) 24 rfl (R + 1) 47 6 56 _ Try.underlying24 info_frame rfl (by decide) (by decide) _ (fs.map frR) (frR f) _ (by rfl) rfl (one_frR f) (by rfl) VQ.out (by rfl) (by rw [List.length_map]; omega) (by have := OQ.out.size; have := HRR.out; have := (Array.getElem?_eq_some_iff.1 XQ.out).1; omega) _ ?_; intro v5 w5 hr5 hg5; have hl5 := VQ.out.lt; have V5 := Lib.hid hr5; have R5 : Hid (RdAt w5 b m') := Lib.hid (block_grown RQ.out hg5 (fun k e => (hl5 k e).1) (by omega)); have X5 := Lib.hid (block_grown XQ.out hg5 (fun k e => (hl5 k e).1) (by omega)); have O5 := Lib.hid (OQ.out.grownT hg5 (fun k e => by have := (hl5 k e).1; have := HRR.out; omega)); clear hl5 hr5 hg5)
        go_roundg g
        case measure => omega
        case rel =>
          refine ⟨m', fs ++ [f], hok, by rw [HBS1.out]; exact hb, by rw [HT1.out]; exact ht, by rw [HT1.out]; omega, by rw [List.length_append]; simp; omega, HA, R5, ?_, X5, O5⟩
          rw [List.map_append]; exact V5
end Go.Proofs.Ytmnmonmbdgedbaa
