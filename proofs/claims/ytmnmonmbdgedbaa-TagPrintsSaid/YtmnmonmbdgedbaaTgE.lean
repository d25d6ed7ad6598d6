/- Layer 15 (tag): the document's Print, walked. -/
import Derived.Test.YtmnmonmbdgedbaaTgD
import Derived.Test.YtmnmonmbdgedbaaTg11
import Derived.Deep.RegionHeld3
namespace Go.Proofs.Ytmnmonmbdgedbaa
open Go.RowKit
set_option linter.unusedVariables false
set_option linter.unusedSimpArgs false

theorem conv_cells3 {P : Program} (w : World) (b : Nat) (a0 a1 a2 : Int) (src dst e : TypeId) (h : w.heap[b]? = some (.cells #[.int .u8 a0, .int .u8 a1, .int .u8 a2] e (0, 0))) (h1 : P.underlying src = some (.slice e)) (h2 : P.underlying e = some (.int .u8)) (h3 : P.underlying dst = some .string) :
    (convert src dst (.slice (some ⟨b, 0, none⟩) 3 3)).run P w = .ok (.string ⟨[UInt8.ofNat a0.toNat, UInt8.ofNat a1.toNat, UInt8.ofNat a2.toNat].toArray⟩) w := by
  refine run_convert_bytes_arg _ src e h1 h2 b 0 3 3 [a0, a1, a2] rfl ?_ dst h3
  intro i hi
  rw [Nat.zero_add, cell_at h]
  match i, hi with
  | 0, _ => rfl
  | 1, _ => rfl
  | 2, _ => rfl
def LoopHeld (w' : World) (xb b off j n cap : Nat) (v : Int) (rv fl : UInt8) (f : Fr) : Prop := w'.cell? ⟨xb, 0, none⟩ = some (.int .i64 v) ∧ w'.cell? ⟨xb, 1, none⟩ = some (.int .i64 rv.toNat) ∧ w'.cell? ⟨xb, 2, none⟩ = some (.int .i64 fl.toNat) ∧ w'.cell? ⟨xb, 3, none⟩ = some (.slice (some ⟨b, off, none⟩) n cap) ∧ w'.cell? ⟨b, off + j * 6, none⟩ = some (.string ⟨f.id.toArray⟩) ∧ w'.cell? ⟨b, off + j * 6 + 1, none⟩ = some (.int .i64 f.st.toNat) ∧ w'.cell? ⟨b, off + j * 6 + 2, none⟩ = some (.int .i64 f.fm.toNat) ∧ w'.cell? ⟨b, off + j * 6 + 3, none⟩ = some (.int .i64 f.gr.toNat) ∧ w'.cell? ⟨b, off + j * 6 + 4, none⟩ = some (.string ⟨f.bo.toArray⟩) ∧ w'.cell? ⟨b, off + j * 6 + 5, none⟩ = some (.int .i64 f.pl)
theorem LoopHeld.below {w w1 : World} {xb b off j n cap : Nat} {v : Int} {rv fl : UInt8} {f : Fr} (h : LoopHeld w xb b off j n cap v rv fl f) (hx : xb < w.heap.size) (hb : b < w.heap.size) (k : Below w.heap.size w w1) : LoopHeld w1 xb b off j n cap v rv fl f := by
  have q := (bcell k).1
  obtain ⟨h0, h1, h2, h3, g0, g1, g2, g3, g4, g5⟩ := h
  exact ⟨(q _ _ hx).trans h0, (q _ _ hx).trans h1, (q _ _ hx).trans h2, (q _ _ hx).trans h3, (q _ _ hb).trans g0, (q _ _ hb).trans g1, (q _ _ hb).trans g2, (q _ _ hb).trans g3, (q _ _ hb).trans g4, (q _ _ hb).trans g5⟩
set_option maxHeartbeats 8000000 in
set_option maxRecDepth 100000 in
theorem rtprint_any (v : Int) (rv fl : UInt8) (a : Option Addr) (n cap : Nat) (fs : List Fr) (bo : List UInt8) (w : World) (hs : Hid (RecsAt w a n 6 (fs.map rfR))) (hn : n ≤ 1000000) (hv : v = 2 ∨ v = 3 ∨ v = 4)
    (hp : Hid (∀ f ∈ fs, checkF v f = 0 ∧ f.bo.length ≤ 1000000)) (hl : (bodyL v fs).length ≤ 4000000) (HB : Hid (bodyT v fl fs = bo)) (hbo : bo.length ≤ 8000000) :
    Calls Try.prog 31 #[.agg #[.int .i64 v, .int .i64 rv.toNat, .int .i64 fl.toNat, .slice a n cap]] w fun e w' => e = .returned (.string ⟨(printT ⟨v, rv, fl, fs⟩).toArray⟩) ∧ Below w.heap.size w w' := by
  have HL : Hid (fs.length = n) := Lib.hid (by simpa using hs.out.1)
  have hni : (n : Int) ≤ 1000000 := by omega
  go_enter Try.func31, Try.ntmps31
  go_upto_region 3 with (fail)
  have X := Lib.hid (at_a0 w #[.int .i64 v, .int .i64 rv.toNat, .int .i64 fl.toNat, .slice a n cap] 40)
  have K : Hid (Below w.heap.size w (w.alloc (.cells #[.int .i64 v, .int .i64 rv.toNat, .int .i64 fl.toNat, .slice a n cap] 40))) := Lib.hid ((Below.refl _ _).alloc (Nat.le_refl _) _)
  have HS := Lib.hid (hs.out.below K.out)
  clear hs
  generalize w.alloc (.cells #[.int .i64 v, .int .i64 rv.toNat, .int .i64 fl.toNat, .slice a n cap] 40) = w0 at *
  obtain ⟨xb, hxb⟩ : ∃ xb, xb = w.heap.size := ⟨_, rfl⟩
  rw [← hxb]
  rw [← hxb] at X
  clear hxb
  go_loopw [3, 4] (fun s i wr => ∃ (j : Nat), j ≤ n ∧ i = .int .i64 j ∧ s = .string ⟨(bodyL v (fs.take j)).toArray⟩ ∧ Hid (Below w0.heap.size w0 wr)) (fun _ i _ => n - (intOf i).toNat)
  case atStart => exact ⟨0, by omega, rfl, rfl, Lib.hid (Below.refl _ _)⟩
  case round =>
    obtain ⟨j, hj, rfl, rfl, HBW⟩ := hrel
    replace X := Lib.hid (block_below X.out HBW.out)
    replace HS := Lib.hid (HS.out.below HBW.out)
    replace K := Lib.hid (nextB K.out HBW.out)
    have hxw := (Array.getElem?_eq_some_iff.1 X.out).1
    by_cases hlt : j < n
    · have g0 : (j : Int) < n := by omega
      have hjl : j < fs.length := by rw [HL.out]; exact hlt
      obtain ⟨b, off, rfl, hbb, c0, c1, c2, c3, c4, c5⟩ := rfs_cells HS.out j hjl
      obtain ⟨hcf, hbf⟩ := hp.out _ (List.getElem_mem hjl)
      have RP := Lib.hid (fun w => rfprint_any v fs[j] w hbf hcf)
      have HE := Lib.hid (show bodyL v (fs.take (j + 1)) = bodyL v (fs.take j) ++ printF v fs[j] by rw [List.take_succ_eq_append_getElem hjl, bodyL_snoc])
      have hle := bodyL_take_le v fs (j + 1)
      rw [HE.out, List.length_append] at hle
      unfold RPrint rfV at RP
      clear hcf hbf
      generalize fs[j] = f at *
      generalize bodyL v (fs.take j) = acc at *
      generalize printF v f = pf at *
      obtain ⟨z, hz, AZ⟩ := fr_add_run acc pf (by omega)
      have HZ := Lib.hid hz
      clear hz
      obtain ⟨x0, x1, x2, x3⟩ := cells4 (X.out)
      have cc : LoopHeld wr xb b off j n cap v rv fl f := ⟨x0, x1, x2, x3, c0, c1, c2, c3, c4, c5⟩
      go_upto_region 5 with (fail)
      have ccd : LoopHeld wr.drew xb b off j n cap v rv fl f := cc
      unfold LoopHeld at cc ccd
      first | (go_region_held3 (fun w' => w'.cell? ⟨xb, 0, none⟩ = some (.int .i64 v) ∧ w'.cell? ⟨xb, 1, none⟩ = some (.int .i64 rv.toNat) ∧ w'.cell? ⟨xb, 2, none⟩ = some (.int .i64 fl.toNat) ∧ w'.cell? ⟨xb, 3, none⟩ = some (.slice (some ⟨b, off, none⟩) n cap) ∧ w'.cell? ⟨b, off + j * 6, none⟩ = some (.string ⟨f.id.toArray⟩) ∧ w'.cell? ⟨b, off + j * 6 + 1, none⟩ = some (.int .i64 f.st.toNat) ∧ w'.cell? ⟨b, off + j * 6 + 2, none⟩ = some (.int .i64 f.fm.toNat) ∧ w'.cell? ⟨b, off + j * 6 + 3, none⟩ = some (.int .i64 f.gr.toNat) ∧ w'.cell? ⟨b, off + j * 6 + 4, none⟩ = some (.string ⟨f.bo.toArray⟩) ∧ w'.cell? ⟨b, off + j * 6 + 5, none⟩ = some (.int .i64 f.pl)) (first | with_reducible exact ccd | with_reducible exact xx | fail)
        (first | (go_at_call 77; (with_reducible refine (RP.out _).mono ?_); rintro e wq ⟨rfl, hbq⟩; have KK := Lib.hid (fr_drewB hbq); have xx := LoopHeld.below (show LoopHeld wr xb b off j n cap v rv fl f from cc) hxw hbb KK.out; unfold LoopHeld at xx; clear hbq))) | fail
      go_wp2
      refine ⟨⟨j + 1, by omega, by simp, ?_, Lib.hid (nextB HBW.out KK.out)⟩, by simp [intOf]; omega⟩
      rw [HE.out, HZ.out]
    · have g0 : ¬ (j : Int) < n := by omega
      have hjn : j = n := by omega
      subst hjn
      have hf : fs.take j = fs := List.take_of_length_le (by rw [HL.out]; exact Nat.le_refl _)
      rw [hf]
      obtain ⟨x0, x1, x2, x3⟩ := cells4 (X.out)
      have b2 := byte_le rv
      have b3 := byte_le fl
      have RPU := Lib.hid (fun w => rput_any (bodyL v fs) w (by omega))
      have BS := Lib.hid (fun w => bit_any fl 128 w (by decide) (by decide))
      have e128 : (((128 : Nat) : Int)) = 128 := rfl
      rw [e128, (bt_tb fl).1] at BS
      have BF := Lib.hid (fun w => bit_any fl 16 w (by decide) (by decide))
      have e16 : (((16 : Nat) : Int)) = 16 := rfl
      rw [e16, (bt_tb fl).2.2.1] at BF
      clear e16 e128
      have hw : wholeB v fl = (decide (v < 4) && tb fl 128) := by unfold wholeB; rcases hv with rfl | rfl | rfl <;> rfl
      have HB2 : Hid (bo = if (decide (v < 4) && tb fl 128) = true then sndPut (bodyL v fs) else bodyL v fs) := Lib.hid (by rw [← hw, ← HB.out]; rfl)
      have HF : Hid (footB v fl = (decide (v = 4) && tb fl 16)) := Lib.hid (by unfold footB; by_cases h : v = 4 <;> simp [h])
      have HP : Hid (printT ⟨v, rv, fl, fs⟩ = [73, 68, 51] ++ (headL v rv fl bo.length ++ (bo ++ tailT (footB v fl) (headL v rv fl bo.length)))) := Lib.hid (by unfold printT; rw [HB.out])
      have hvb : (0 : Int) ≤ v ∧ v ≤ 255 := by omega
      have SFE := Lib.hid (fun w => rsafe_any bo.length w (by omega))
      generalize bodyL v fs = bl at *
      generalize tb fl 128 = sb at *
      have wv : IntKind.u8.wrap v = v := by rcases hv with rfl | rfl | rfl <;> rfl
      have wr1 : IntKind.u8.wrap (rv.toNat : Int) = rv.toNat := by simp [IntKind.wrap, IntKind.bits, IntKind.signed]; omega
      have wf1 : IntKind.u8.wrap (fl.toNat : Int) = fl.toNat := by simp [IntKind.wrap, IntKind.bits, IntKind.signed]; omega
      have wl : IntKind.u64.wrap (bo.length : Int) = bo.length := by simp [IntKind.wrap, IntKind.bits, IntKind.signed]; omega
      have u0 : UInt8.ofNat (rv.toNat : Int).toNat = rv := by simp
      have u1 : UInt8.ofNat (fl.toNat : Int).toNat = fl := by simp
      have hsl := safeL_len bo.length
      obtain ⟨z, hz, AZ⟩ := fr_add_run [UInt8.ofNat v.toNat, rv, fl] (safeL bo.length) (by rw [hsl]; simp)
      have hzl : z.length = 7 := by rw [hz, List.length_append, hsl]; rfl
      have HH : Hid (headL v rv fl bo.length = z) := Lib.hid (by rw [hz]; unfold headL headT; rw [bigL_nat _ (by omega), bigL_1, bigL_1]; rfl)
      rw [HH.out] at HP
      clear hz hsl
      by_cases h4 : v < 4
      · have t4 : (v == 4) = false := by simp; omega
        have d4 : decide (v < 4) = true := by simpa using h4
        have HF2 : Hid (footB v fl = false) := Lib.hid (by rw [HF.out]; simp; intro h; omega)
        rw [d4, Bool.true_and] at HB2
        clear d4
        rcases sb with _ | _
        · have HB3 := Lib.hid (show bl = bo by rw [HB2.out]; rfl)
          go_upto_region 8 with (first | (go_at_call 28; (with_reducible refine (BS.out _).mono ?_); rintro e wx ⟨rfl, rfl⟩))
          rw [HB3.out]
          have xx : (wr.drew).cell? ⟨xb, 0, none⟩ = some (.int .i64 v) ∧ (wr.drew).cell? ⟨xb, 1, none⟩ = some (.int .i64 rv.toNat) ∧ (wr.drew).cell? ⟨xb, 2, none⟩ = some (.int .i64 fl.toNat) ∧ (wr.drew).cell? ⟨xb, 3, none⟩ = some (.slice a j cap) := ⟨cell_at (j := 0) (X.out), cell_at (j := 1) (X.out), cell_at (j := 2) (X.out), cell_at (j := 3) (X.out)⟩
          have xxA : (((wr.alloc (.cells #[.int .u8 v, .int .u8 rv.toNat, .int .u8 fl.toNat] 5)).drew)).cell? ⟨xb, 0, none⟩ = some (.int .i64 v) ∧ (((wr.alloc (.cells #[.int .u8 v, .int .u8 rv.toNat, .int .u8 fl.toNat] 5)).drew)).cell? ⟨xb, 1, none⟩ = some (.int .i64 rv.toNat) ∧ (((wr.alloc (.cells #[.int .u8 v, .int .u8 rv.toNat, .int .u8 fl.toNat] 5)).drew)).cell? ⟨xb, 2, none⟩ = some (.int .i64 fl.toNat) ∧ (((wr.alloc (.cells #[.int .u8 v, .int .u8 rv.toNat, .int .u8 fl.toNat] 5)).drew)).cell? ⟨xb, 3, none⟩ = some (.slice a j cap) := ⟨cell_at (j := 0) (block_below X.out (((Below.refl _ _).alloc (Nat.le_refl _) _).drew)), cell_at (j := 1) (block_below X.out (((Below.refl _ _).alloc (Nat.le_refl _) _).drew)), cell_at (j := 2) (block_below X.out (((Below.refl _ _).alloc (Nat.le_refl _) _).drew)), cell_at (j := 3) (block_below X.out (((Below.refl _ _).alloc (Nat.le_refl _) _).drew))⟩
          have hxw2 := (Array.getElem?_eq_some_iff.1 X.out).1
          have CV1 := conv_cells3 (P := Try.prog) ((wr.alloc (.cells #[.int .u8 v, .int .u8 rv.toNat, .int .u8 fl.toNat] 5)).drew) wr.heap.size v rv.toNat fl.toNat 97 9 5 (at_a0 wr _ _) Try.underlying97 Try.underlying5 Try.underlying9
          rw [u0, u1] at CV1
          refine wp_region_noPanic ?_
          refine wp_region_held_drew (S := fun w' => w'.cell? ⟨xb, 0, none⟩ = some (.int .i64 v) ∧ w'.cell? ⟨xb, 1, none⟩ = some (.int .i64 rv.toNat) ∧ w'.cell? ⟨xb, 2, none⟩ = some (.int .i64 fl.toNat) ∧ w'.cell? ⟨xb, 3, none⟩ = some (.slice a j cap)) (by kernel_rfl) xx (fun hHeld => ?_)
          clear hHeld
          try simp only [Act.put, List.setIfInBounds_toArray, List.set_cons_zero, List.set_cons_succ, List.getElem_toArray, List.getElem_cons_zero, List.getElem_cons_succ]
          refine wpAnyH_take (i := 0) (v := ?v1) rfl (by kernel_rfl) (by kernel_rfl) (by kernel_rfl) (fun _ _ _ h => h) (Or.inl ⟨by rfl, ?hy1⟩) xx ?r1
          case hy1 => (intro w hSw; (try dsimp only at hSw); go_simp; first | done | with_reducible rfl)
          try simp only [Act.put, List.setIfInBounds_toArray, List.set_cons_zero, List.set_cons_succ, List.getElem_toArray, List.getElem_cons_zero, List.getElem_cons_succ]
          refine wpAnyH_take (i := 1) (v := ?v2) rfl (by kernel_rfl) (by kernel_rfl) (by kernel_rfl) (fun _ _ _ h => h) (Or.inl ⟨by rfl, ?hy2⟩) xx ?r2
          case hy2 => (intro w hSw; (try dsimp only at hSw); go_simp; first | done | with_reducible rfl)
          try simp only [Act.put, List.setIfInBounds_toArray, List.set_cons_zero, List.set_cons_succ, List.getElem_toArray, List.getElem_cons_zero, List.getElem_cons_succ]
          refine wpAnyH_take (i := 2) (v := ?v3) rfl (by kernel_rfl) (by kernel_rfl) (by kernel_rfl) (fun _ _ _ h => h) (Or.inl ⟨by rfl, ?hy3⟩) xx ?r3
          case hy3 => (intro w hSw; (try dsimp only at hSw); go_simp; first | done | with_reducible rfl)
          try simp only [Act.put, List.setIfInBounds_toArray, List.set_cons_zero, List.set_cons_succ, List.getElem_toArray, List.getElem_cons_zero, List.getElem_cons_succ]
          refine wpAnyH_take (i := 3) (v := ?v4) rfl (by kernel_rfl) (by kernel_rfl) (by kernel_rfl) (fun _ _ _ h => h) (Or.inl ⟨by rfl, ?hy4⟩) xx ?r4
          case hy4 => (intro w hSw; (try dsimp only at hSw); go_simp; first | done | with_reducible rfl)
          try simp only [Act.put, List.setIfInBounds_toArray, List.set_cons_zero, List.set_cons_succ, List.getElem_toArray, List.getElem_cons_zero, List.getElem_cons_succ]
          refine wpAnyH_take (i := 4) (v := ?v5) rfl (by kernel_rfl) (by kernel_rfl) (by kernel_rfl) (fun _ _ _ h => h) (Or.inl ⟨by rfl, ?hy5⟩) xx ?r5
          case hy5 => (intro w hSw; (try dsimp only at hSw); go_simp; first | done | with_reducible rfl)
          try simp only [Act.put, List.setIfInBounds_toArray, List.set_cons_zero, List.set_cons_succ, List.getElem_toArray, List.getElem_cons_zero, List.getElem_cons_succ]
          refine wpAnyH_take (i := 5) (v := ?v6) rfl (by kernel_rfl) (by kernel_rfl) (by kernel_rfl) (fun _ _ _ h => h) (Or.inl ⟨by rfl, ?hy6⟩) xx ?r6
          case hy6 => (intro w hSw; (try dsimp only at hSw); go_simp; first | done | with_reducible rfl)
          try simp only [Act.put, List.setIfInBounds_toArray, List.set_cons_zero, List.set_cons_succ, List.getElem_toArray, List.getElem_cons_zero, List.getElem_cons_succ]
          refine wpAnyH_take (i := 6) (v := ?v7) rfl (by kernel_rfl) (by kernel_rfl) (by kernel_rfl) (fun _ _ _ h => h) (Or.inl ⟨by rfl, ?hy7⟩) xx ?r7
          case hy7 => (intro w hSw; (try dsimp only at hSw); go_simp; first | done | with_reducible rfl)
          try simp only [Act.put, List.setIfInBounds_toArray, List.set_cons_zero, List.set_cons_succ, List.getElem_toArray, List.getElem_cons_zero, List.getElem_cons_succ]
          refine wpAnyH_take (i := 7) (v := ?v8) rfl (by kernel_rfl) (by kernel_rfl) (by kernel_rfl) (fun _ _ _ h => h) (Or.inl ⟨by rfl, ?hy8⟩) xx ?r8
          case hy8 => (intro w hSw; (try dsimp only at hSw); go_simp; first | done | with_reducible rfl)
          try simp only [Act.put, List.setIfInBounds_toArray, List.set_cons_zero, List.set_cons_succ, List.getElem_toArray, List.getElem_cons_zero, List.getElem_cons_succ]
          refine wpAnyH_take (i := 8) (v := ?v9) rfl (by kernel_rfl) (by kernel_rfl) (by kernel_rfl) (fun _ _ _ h => h) (Or.inl ⟨by rfl, ?hy9⟩) xx ?r9
          case hy9 => (intro w hSw; (try dsimp only at hSw); go_simp; first | done | with_reducible rfl)
          try simp only [Act.put, List.setIfInBounds_toArray, List.set_cons_zero, List.set_cons_succ, List.getElem_toArray, List.getElem_cons_zero, List.getElem_cons_succ]
          refine wpAnyH_take (i := 11) (v := ?v10) rfl (by kernel_rfl) (by kernel_rfl) (by kernel_rfl) (fun _ _ _ h => h) (Or.inl ⟨by rfl, ?hy10⟩) xx ?r10
          case hy10 => (intro w hSw; (try dsimp only at hSw); go_simp; first | done | with_reducible rfl)
          try simp only [Act.put, List.setIfInBounds_toArray, List.set_cons_zero, List.set_cons_succ, List.getElem_toArray, List.getElem_cons_zero, List.getElem_cons_succ]
          refine wpAnyH_take (i := 12) (v := ?v11) rfl (by kernel_rfl) (by kernel_rfl) (by kernel_rfl) (fun _ _ _ h => h) (Or.inl ⟨by rfl, ?hy11⟩) xx ?r11
          case hy11 => (intro w hSw; (try dsimp only at hSw); go_simp; first | done | with_reducible rfl)
          try simp only [Act.put, List.setIfInBounds_toArray, List.set_cons_zero, List.set_cons_succ, List.getElem_toArray, List.getElem_cons_zero, List.getElem_cons_succ]
          refine wpAnyH_take (i := 13) (v := ?v12) rfl (by kernel_rfl) (by kernel_rfl) (by kernel_rfl) (fun _ _ _ h => h) (Or.inl ⟨by rfl, ?hy12⟩) xx ?r12
          case hy12 => (intro w hSw; (try dsimp only at hSw); go_simp; first | done | with_reducible rfl)
          try simp only [Act.put, List.setIfInBounds_toArray, List.set_cons_zero, List.set_cons_succ, List.getElem_toArray, List.getElem_cons_zero, List.getElem_cons_succ]
          refine wpAnyH_ready (rs := [9, 14]) (by kernel_rfl) (by simp) ?_
          refine AllReadyH.cons rfl (fun K hK => ?_) ?_
          · go_simp
            have xx := xxA
            refine hK.out _ _ xx (fun hHeld => ?_)
            clear hK K hHeld
            try simp only [Act.put, List.setIfInBounds_toArray, List.set_cons_zero, List.set_cons_succ, List.getElem_toArray, List.getElem_cons_zero, List.getElem_cons_succ]
            refine wpAnyH_ready (rs := [10, 14]) (by kernel_rfl) (by simp) ?_
            refine AllReadyH.cons rfl (fun K hK => ?_) ?_
            · go_simp
              refine hK.out _ _ xx (fun hHeld => ?_)
              clear hK K hHeld
              try simp only [Act.put, List.setIfInBounds_toArray, List.set_cons_zero, List.set_cons_succ, List.getElem_toArray, List.getElem_cons_zero, List.getElem_cons_succ]
              refine wpAnyH_ready (rs := [14]) (by kernel_rfl) (by simp) ?_
              refine AllReadyH.cons rfl (fun K hK => ?_) AllReadyH.nil
              go_simp
              (go_at_call 79; refine (SFE.out _).mono ?_; rintro e wq ⟨rfl, hbq⟩; have BB := Lib.hid (block_below (at_a0 wr _ _) (fr_drewB hbq)); have KK := Lib.hid (below_a1 (fr_drewB hbq)); have xx : wq.cell? ⟨xb, 0, none⟩ = some (.int .i64 v) ∧ wq.cell? ⟨xb, 1, none⟩ = some (.int .i64 rv.toNat) ∧ wq.cell? ⟨xb, 2, none⟩ = some (.int .i64 fl.toNat) ∧ wq.cell? ⟨xb, 3, none⟩ = some (.slice a j cap) := ⟨cell_at (j := 0) (block_below X.out KK.out), cell_at (j := 1) (block_below X.out KK.out), cell_at (j := 2) (block_below X.out KK.out), cell_at (j := 3) (block_below X.out KK.out)⟩; have CV2 := conv_cells3 (P := Try.prog) wq wr.heap.size v rv.toNat fl.toNat 97 9 5 BB.out Try.underlying97 Try.underlying5 Try.underlying9; rw [u0, u1] at CV2; clear hbq; have hy := (Array.getElem?_eq_some_iff.1 (block_below X.out KK.out)).1; obtain ⟨y0, y1, y2, y3⟩ := cells4 ((block_below X.out KK.out)))
              refine hK.out _ _ xx (fun hHeld => ?_)
              clear hK K hHeld
              try simp only [Act.put, List.setIfInBounds_toArray, List.set_cons_zero, List.set_cons_succ, List.getElem_toArray, List.getElem_cons_zero, List.getElem_cons_succ]
              refine wpAnyH_take (i := 15) (v := ?v13) rfl (by kernel_rfl) (by kernel_rfl) (by kernel_rfl) (fun _ _ _ h => h) (Or.inl ⟨by rfl, ?hy13⟩) xx ?r13
              case hy13 => (intro w hSw; (try dsimp only at hSw); go_simp; first | done | with_reducible rfl)
              try simp only [Act.put, List.setIfInBounds_toArray, List.set_cons_zero, List.set_cons_succ, List.getElem_toArray, List.getElem_cons_zero, List.getElem_cons_succ]
              refine wpAnyH_take (i := 16) (v := ?v14) rfl (by kernel_rfl) (by kernel_rfl) (by kernel_rfl) (fun _ _ _ h => h) (Or.inl ⟨by rfl, ?hy14⟩) xx ?r14
              case hy14 => (intro w hSw; (try dsimp only at hSw); go_simp; first | done | with_reducible rfl)
              try simp only [Act.put, List.setIfInBounds_toArray, List.set_cons_zero, List.set_cons_succ, List.getElem_toArray, List.getElem_cons_zero, List.getElem_cons_succ]
              refine wpAnyH_done (by kernel_rfl) ?_ _
              refine NoPanic.normal ?_
              go_wp2
              go_ret
              exact ⟨ret_str (by rw [HP.out, HF2.out]; simp [tailT]), nextB K.out KK.out⟩
            · refine AllReadyH.cons rfl (fun K hK => ?_) AllReadyH.nil
              go_simp
              (go_at_call 79; refine (SFE.out _).mono ?_; rintro e wq ⟨rfl, hbq⟩; have BB := Lib.hid (block_below (at_a0 wr _ _) (fr_drewB hbq)); have KK := Lib.hid (below_a1 (fr_drewB hbq)); have xx : wq.cell? ⟨xb, 0, none⟩ = some (.int .i64 v) ∧ wq.cell? ⟨xb, 1, none⟩ = some (.int .i64 rv.toNat) ∧ wq.cell? ⟨xb, 2, none⟩ = some (.int .i64 fl.toNat) ∧ wq.cell? ⟨xb, 3, none⟩ = some (.slice a j cap) := ⟨cell_at (j := 0) (block_below X.out KK.out), cell_at (j := 1) (block_below X.out KK.out), cell_at (j := 2) (block_below X.out KK.out), cell_at (j := 3) (block_below X.out KK.out)⟩; have CV2 := conv_cells3 (P := Try.prog) wq wr.heap.size v rv.toNat fl.toNat 97 9 5 BB.out Try.underlying97 Try.underlying5 Try.underlying9; rw [u0, u1] at CV2; clear hbq; have hy := (Array.getElem?_eq_some_iff.1 (block_below X.out KK.out)).1; obtain ⟨y0, y1, y2, y3⟩ := cells4 ((block_below X.out KK.out)))
              refine hK.out _ _ xx (fun hHeld => ?_)
              clear hK K hHeld
              try simp only [Act.put, List.setIfInBounds_toArray, List.set_cons_zero, List.set_cons_succ, List.getElem_toArray, List.getElem_cons_zero, List.getElem_cons_succ]
              refine wpAnyH_ready (rs := [10]) (by kernel_rfl) (by simp) ?_
              refine AllReadyH.cons rfl (fun K hK => ?_) AllReadyH.nil
              go_simp
              refine hK.out _ _ xx (fun hHeld => ?_)
              clear hK K hHeld
              try simp only [Act.put, List.setIfInBounds_toArray, List.set_cons_zero, List.set_cons_succ, List.getElem_toArray, List.getElem_cons_zero, List.getElem_cons_succ]
              refine wpAnyH_take (i := 15) (v := ?v15) rfl (by kernel_rfl) (by kernel_rfl) (by kernel_rfl) (fun _ _ _ h => h) (Or.inl ⟨by rfl, ?hy15⟩) xx ?r15
              case hy15 => (intro w hSw; (try dsimp only at hSw); go_simp; first | done | with_reducible rfl)
              try simp only [Act.put, List.setIfInBounds_toArray, List.set_cons_zero, List.set_cons_succ, List.getElem_toArray, List.getElem_cons_zero, List.getElem_cons_succ]
              refine wpAnyH_take (i := 16) (v := ?v16) rfl (by kernel_rfl) (by kernel_rfl) (by kernel_rfl) (fun _ _ _ h => h) (Or.inl ⟨by rfl, ?hy16⟩) xx ?r16
              case hy16 => (intro w hSw; (try dsimp only at hSw); go_simp; first | done | with_reducible rfl)
              try simp only [Act.put, List.setIfInBounds_toArray, List.set_cons_zero, List.set_cons_succ, List.getElem_toArray, List.getElem_cons_zero, List.getElem_cons_succ]
              refine wpAnyH_done (by kernel_rfl) ?_ _
              refine NoPanic.normal ?_
              go_wp2
              go_ret
              exact ⟨ret_str (by rw [HP.out, HF2.out]; simp [tailT]), nextB K.out KK.out⟩
          · refine AllReadyH.cons rfl (fun K hK => ?_) AllReadyH.nil
            go_simp
            (go_at_call 79; refine (SFE.out _).mono ?_; rintro e wq ⟨rfl, hbq⟩; have KK := Lib.hid (fr_drewB hbq); have xx : wq.cell? ⟨xb, 0, none⟩ = some (.int .i64 v) ∧ wq.cell? ⟨xb, 1, none⟩ = some (.int .i64 rv.toNat) ∧ wq.cell? ⟨xb, 2, none⟩ = some (.int .i64 fl.toNat) ∧ wq.cell? ⟨xb, 3, none⟩ = some (.slice a j cap) := ⟨cell_at (j := 0) (block_below X.out KK.out), cell_at (j := 1) (block_below X.out KK.out), cell_at (j := 2) (block_below X.out KK.out), cell_at (j := 3) (block_below X.out KK.out)⟩; clear hbq; have hy := (Array.getElem?_eq_some_iff.1 (block_below X.out KK.out)).1; obtain ⟨y0, y1, y2, y3⟩ := cells4 ((block_below X.out KK.out)))
            refine hK.out _ _ xx (fun hHeld => ?_)
            clear hK K hHeld
            try simp only [Act.put, List.setIfInBounds_toArray, List.set_cons_zero, List.set_cons_succ, List.getElem_toArray, List.getElem_cons_zero, List.getElem_cons_succ]
            refine wpAnyH_ready (rs := [9]) (by kernel_rfl) (by simp) ?_
            refine AllReadyH.cons rfl (fun K hK => ?_) AllReadyH.nil
            go_simp
            have xx : ((wq.alloc (.cells #[.int .u8 v, .int .u8 rv.toNat, .int .u8 fl.toNat] 5))).cell? ⟨xb, 0, none⟩ = some (.int .i64 v) ∧ ((wq.alloc (.cells #[.int .u8 v, .int .u8 rv.toNat, .int .u8 fl.toNat] 5))).cell? ⟨xb, 1, none⟩ = some (.int .i64 rv.toNat) ∧ ((wq.alloc (.cells #[.int .u8 v, .int .u8 rv.toNat, .int .u8 fl.toNat] 5))).cell? ⟨xb, 2, none⟩ = some (.int .i64 fl.toNat) ∧ ((wq.alloc (.cells #[.int .u8 v, .int .u8 rv.toNat, .int .u8 fl.toNat] 5))).cell? ⟨xb, 3, none⟩ = some (.slice a j cap) := ⟨cell_at (j := 0) (block_below (block_below X.out KK.out) ((Below.refl _ _).alloc (Nat.le_refl _) _)), cell_at (j := 1) (block_below (block_below X.out KK.out) ((Below.refl _ _).alloc (Nat.le_refl _) _)), cell_at (j := 2) (block_below (block_below X.out KK.out) ((Below.refl _ _).alloc (Nat.le_refl _) _)), cell_at (j := 3) (block_below (block_below X.out KK.out) ((Below.refl _ _).alloc (Nat.le_refl _) _))⟩
            refine hK.out _ _ xx (fun hHeld => ?_)
            clear hK K hHeld
            try simp only [Act.put, List.setIfInBounds_toArray, List.set_cons_zero, List.set_cons_succ, List.getElem_toArray, List.getElem_cons_zero, List.getElem_cons_succ]
            refine wpAnyH_ready (rs := [10]) (by kernel_rfl) (by simp) ?_
            refine AllReadyH.cons rfl (fun K hK => ?_) AllReadyH.nil
            go_simp
            refine hK.out _ _ xx (fun hHeld => ?_)
            clear hK K hHeld
            try simp only [Act.put, List.setIfInBounds_toArray, List.set_cons_zero, List.set_cons_succ, List.getElem_toArray, List.getElem_cons_zero, List.getElem_cons_succ]
            refine wpAnyH_take (i := 15) (v := ?v17) rfl (by kernel_rfl) (by kernel_rfl) (by kernel_rfl) (fun _ _ _ h => h) (Or.inl ⟨by rfl, ?hy17⟩) xx ?r17
            case hy17 => (intro w hSw; (try dsimp only at hSw); go_simp; first | done | with_reducible rfl)
            try simp only [Act.put, List.setIfInBounds_toArray, List.set_cons_zero, List.set_cons_succ, List.getElem_toArray, List.getElem_cons_zero, List.getElem_cons_succ]
            refine wpAnyH_take (i := 16) (v := ?v18) rfl (by kernel_rfl) (by kernel_rfl) (by kernel_rfl) (fun _ _ _ h => h) (Or.inl ⟨by rfl, ?hy18⟩) xx ?r18
            case hy18 => (intro w hSw; (try dsimp only at hSw); go_simp; first | done | with_reducible rfl)
            try simp only [Act.put, List.setIfInBounds_toArray, List.set_cons_zero, List.set_cons_succ, List.getElem_toArray, List.getElem_cons_zero, List.getElem_cons_succ]
            refine wpAnyH_done (by kernel_rfl) ?_ _
            refine NoPanic.normal ?_
            go_wp2
            go_ret
            exact ⟨ret_str (by rw [HP.out, HF2.out]; simp [tailT]), (nextB K.out KK.out).alloc (nextB K.out KK.out).size _⟩
        · have HB3 := Lib.hid (show sndPut bl = bo by rw [HB2.out]; rfl)
          go_upto_region 8 with (first | (go_at_call 28; (with_reducible refine (BS.out _).mono ?_); rintro e wx ⟨rfl, rfl⟩) | (go_at_call 78; (with_reducible refine (RPU.out _).mono ?_); rintro e wx ⟨rfl, rfl⟩))
          rw [HB3.out]
          have xx : (wr.drew).cell? ⟨xb, 0, none⟩ = some (.int .i64 v) ∧ (wr.drew).cell? ⟨xb, 1, none⟩ = some (.int .i64 rv.toNat) ∧ (wr.drew).cell? ⟨xb, 2, none⟩ = some (.int .i64 fl.toNat) ∧ (wr.drew).cell? ⟨xb, 3, none⟩ = some (.slice a j cap) := ⟨cell_at (j := 0) (X.out), cell_at (j := 1) (X.out), cell_at (j := 2) (X.out), cell_at (j := 3) (X.out)⟩
          have xxA : (((wr.alloc (.cells #[.int .u8 v, .int .u8 rv.toNat, .int .u8 fl.toNat] 5)).drew)).cell? ⟨xb, 0, none⟩ = some (.int .i64 v) ∧ (((wr.alloc (.cells #[.int .u8 v, .int .u8 rv.toNat, .int .u8 fl.toNat] 5)).drew)).cell? ⟨xb, 1, none⟩ = some (.int .i64 rv.toNat) ∧ (((wr.alloc (.cells #[.int .u8 v, .int .u8 rv.toNat, .int .u8 fl.toNat] 5)).drew)).cell? ⟨xb, 2, none⟩ = some (.int .i64 fl.toNat) ∧ (((wr.alloc (.cells #[.int .u8 v, .int .u8 rv.toNat, .int .u8 fl.toNat] 5)).drew)).cell? ⟨xb, 3, none⟩ = some (.slice a j cap) := ⟨cell_at (j := 0) (block_below X.out (((Below.refl _ _).alloc (Nat.le_refl _) _).drew)), cell_at (j := 1) (block_below X.out (((Below.refl _ _).alloc (Nat.le_refl _) _).drew)), cell_at (j := 2) (block_below X.out (((Below.refl _ _).alloc (Nat.le_refl _) _).drew)), cell_at (j := 3) (block_below X.out (((Below.refl _ _).alloc (Nat.le_refl _) _).drew))⟩
          have hxw2 := (Array.getElem?_eq_some_iff.1 X.out).1
          have CV1 := conv_cells3 (P := Try.prog) ((wr.alloc (.cells #[.int .u8 v, .int .u8 rv.toNat, .int .u8 fl.toNat] 5)).drew) wr.heap.size v rv.toNat fl.toNat 97 9 5 (at_a0 wr _ _) Try.underlying97 Try.underlying5 Try.underlying9
          rw [u0, u1] at CV1
          refine wp_region_noPanic ?_
          refine wp_region_held_drew (S := fun w' => w'.cell? ⟨xb, 0, none⟩ = some (.int .i64 v) ∧ w'.cell? ⟨xb, 1, none⟩ = some (.int .i64 rv.toNat) ∧ w'.cell? ⟨xb, 2, none⟩ = some (.int .i64 fl.toNat) ∧ w'.cell? ⟨xb, 3, none⟩ = some (.slice a j cap)) (by kernel_rfl) xx (fun hHeld => ?_)
          clear hHeld
          try simp only [Act.put, List.setIfInBounds_toArray, List.set_cons_zero, List.set_cons_succ, List.getElem_toArray, List.getElem_cons_zero, List.getElem_cons_succ]
          refine wpAnyH_take (i := 0) (v := ?v19) rfl (by kernel_rfl) (by kernel_rfl) (by kernel_rfl) (fun _ _ _ h => h) (Or.inl ⟨by rfl, ?hy19⟩) xx ?r19
          case hy19 => (intro w hSw; (try dsimp only at hSw); go_simp; first | done | with_reducible rfl)
          try simp only [Act.put, List.setIfInBounds_toArray, List.set_cons_zero, List.set_cons_succ, List.getElem_toArray, List.getElem_cons_zero, List.getElem_cons_succ]
          refine wpAnyH_take (i := 1) (v := ?v20) rfl (by kernel_rfl) (by kernel_rfl) (by kernel_rfl) (fun _ _ _ h => h) (Or.inl ⟨by rfl, ?hy20⟩) xx ?r20
          case hy20 => (intro w hSw; (try dsimp only at hSw); go_simp; first | done | with_reducible rfl)
          try simp only [Act.put, List.setIfInBounds_toArray, List.set_cons_zero, List.set_cons_succ, List.getElem_toArray, List.getElem_cons_zero, List.getElem_cons_succ]
          refine wpAnyH_take (i := 2) (v := ?v21) rfl (by kernel_rfl) (by kernel_rfl) (by kernel_rfl) (fun _ _ _ h => h) (Or.inl ⟨by rfl, ?hy21⟩) xx ?r21
          case hy21 => (intro w hSw; (try dsimp only at hSw); go_simp; first | done | with_reducible rfl)
          try simp only [Act.put, List.setIfInBounds_toArray, List.set_cons_zero, List.set_cons_succ, List.getElem_toArray, List.getElem_cons_zero, List.getElem_cons_succ]
          refine wpAnyH_take (i := 3) (v := ?v22) rfl (by kernel_rfl) (by kernel_rfl) (by kernel_rfl) (fun _ _ _ h => h) (Or.inl ⟨by rfl, ?hy22⟩) xx ?r22
          case hy22 => (intro w hSw; (try dsimp only at hSw); go_simp; first | done | with_reducible rfl)
          try simp only [Act.put, List.setIfInBounds_toArray, List.set_cons_zero, List.set_cons_succ, List.getElem_toArray, List.getElem_cons_zero, List.getElem_cons_succ]
          refine wpAnyH_take (i := 4) (v := ?v23) rfl (by kernel_rfl) (by kernel_rfl) (by kernel_rfl) (fun _ _ _ h => h) (Or.inl ⟨by rfl, ?hy23⟩) xx ?r23
          case hy23 => (intro w hSw; (try dsimp only at hSw); go_simp; first | done | with_reducible rfl)
          try simp only [Act.put, List.setIfInBounds_toArray, List.set_cons_zero, List.set_cons_succ, List.getElem_toArray, List.getElem_cons_zero, List.getElem_cons_succ]
          refine wpAnyH_take (i := 5) (v := ?v24) rfl (by kernel_rfl) (by kernel_rfl) (by kernel_rfl) (fun _ _ _ h => h) (Or.inl ⟨by rfl, ?hy24⟩) xx ?r24
          case hy24 => (intro w hSw; (try dsimp only at hSw); go_simp; first | done | with_reducible rfl)
          try simp only [Act.put, List.setIfInBounds_toArray, List.set_cons_zero, List.set_cons_succ, List.getElem_toArray, List.getElem_cons_zero, List.getElem_cons_succ]
          refine wpAnyH_take (i := 6) (v := ?v25) rfl (by kernel_rfl) (by kernel_rfl) (by kernel_rfl) (fun _ _ _ h => h) (Or.inl ⟨by rfl, ?hy25⟩) xx ?r25
          case hy25 => (intro w hSw; (try dsimp only at hSw); go_simp; first | done | with_reducible rfl)
          try simp only [Act.put, List.setIfInBounds_toArray, List.set_cons_zero, List.set_cons_succ, List.getElem_toArray, List.getElem_cons_zero, List.getElem_cons_succ]
          refine wpAnyH_take (i := 7) (v := ?v26) rfl (by kernel_rfl) (by kernel_rfl) (by kernel_rfl) (fun _ _ _ h => h) (Or.inl ⟨by rfl, ?hy26⟩) xx ?r26
          case hy26 => (intro w hSw; (try dsimp only at hSw); go_simp; first | done | with_reducible rfl)
          try simp only [Act.put, List.setIfInBounds_toArray, List.set_cons_zero, List.set_cons_succ, List.getElem_toArray, List.getElem_cons_zero, List.getElem_cons_succ]
          refine wpAnyH_take (i := 8) (v := ?v27) rfl (by kernel_rfl) (by kernel_rfl) (by kernel_rfl) (fun _ _ _ h => h) (Or.inl ⟨by rfl, ?hy27⟩) xx ?r27
          case hy27 => (intro w hSw; (try dsimp only at hSw); go_simp; first | done | with_reducible rfl)
          try simp only [Act.put, List.setIfInBounds_toArray, List.set_cons_zero, List.set_cons_succ, List.getElem_toArray, List.getElem_cons_zero, List.getElem_cons_succ]
          refine wpAnyH_take (i := 11) (v := ?v28) rfl (by kernel_rfl) (by kernel_rfl) (by kernel_rfl) (fun _ _ _ h => h) (Or.inl ⟨by rfl, ?hy28⟩) xx ?r28
          case hy28 => (intro w hSw; (try dsimp only at hSw); go_simp; first | done | with_reducible rfl)
          try simp only [Act.put, List.setIfInBounds_toArray, List.set_cons_zero, List.set_cons_succ, List.getElem_toArray, List.getElem_cons_zero, List.getElem_cons_succ]
          refine wpAnyH_take (i := 12) (v := ?v29) rfl (by kernel_rfl) (by kernel_rfl) (by kernel_rfl) (fun _ _ _ h => h) (Or.inl ⟨by rfl, ?hy29⟩) xx ?r29
          case hy29 => (intro w hSw; (try dsimp only at hSw); go_simp; first | done | with_reducible rfl)
          try simp only [Act.put, List.setIfInBounds_toArray, List.set_cons_zero, List.set_cons_succ, List.getElem_toArray, List.getElem_cons_zero, List.getElem_cons_succ]
          refine wpAnyH_take (i := 13) (v := ?v30) rfl (by kernel_rfl) (by kernel_rfl) (by kernel_rfl) (fun _ _ _ h => h) (Or.inl ⟨by rfl, ?hy30⟩) xx ?r30
          case hy30 => (intro w hSw; (try dsimp only at hSw); go_simp; first | done | with_reducible rfl)
          try simp only [Act.put, List.setIfInBounds_toArray, List.set_cons_zero, List.set_cons_succ, List.getElem_toArray, List.getElem_cons_zero, List.getElem_cons_succ]
          refine wpAnyH_ready (rs := [9, 14]) (by kernel_rfl) (by simp) ?_
          refine AllReadyH.cons rfl (fun K hK => ?_) ?_
          · go_simp
            have xx := xxA
            refine hK.out _ _ xx (fun hHeld => ?_)
            clear hK K hHeld
            try simp only [Act.put, List.setIfInBounds_toArray, List.set_cons_zero, List.set_cons_succ, List.getElem_toArray, List.getElem_cons_zero, List.getElem_cons_succ]
            refine wpAnyH_ready (rs := [10, 14]) (by kernel_rfl) (by simp) ?_
            refine AllReadyH.cons rfl (fun K hK => ?_) ?_
            · go_simp
              refine hK.out _ _ xx (fun hHeld => ?_)
              clear hK K hHeld
              try simp only [Act.put, List.setIfInBounds_toArray, List.set_cons_zero, List.set_cons_succ, List.getElem_toArray, List.getElem_cons_zero, List.getElem_cons_succ]
              refine wpAnyH_ready (rs := [14]) (by kernel_rfl) (by simp) ?_
              refine AllReadyH.cons rfl (fun K hK => ?_) AllReadyH.nil
              go_simp
              (go_at_call 79; refine (SFE.out _).mono ?_; rintro e wq ⟨rfl, hbq⟩; have BB := Lib.hid (block_below (at_a0 wr _ _) (fr_drewB hbq)); have KK := Lib.hid (below_a1 (fr_drewB hbq)); have xx : wq.cell? ⟨xb, 0, none⟩ = some (.int .i64 v) ∧ wq.cell? ⟨xb, 1, none⟩ = some (.int .i64 rv.toNat) ∧ wq.cell? ⟨xb, 2, none⟩ = some (.int .i64 fl.toNat) ∧ wq.cell? ⟨xb, 3, none⟩ = some (.slice a j cap) := ⟨cell_at (j := 0) (block_below X.out KK.out), cell_at (j := 1) (block_below X.out KK.out), cell_at (j := 2) (block_below X.out KK.out), cell_at (j := 3) (block_below X.out KK.out)⟩; have CV2 := conv_cells3 (P := Try.prog) wq wr.heap.size v rv.toNat fl.toNat 97 9 5 BB.out Try.underlying97 Try.underlying5 Try.underlying9; rw [u0, u1] at CV2; clear hbq; have hy := (Array.getElem?_eq_some_iff.1 (block_below X.out KK.out)).1; obtain ⟨y0, y1, y2, y3⟩ := cells4 ((block_below X.out KK.out)))
              refine hK.out _ _ xx (fun hHeld => ?_)
              clear hK K hHeld
              try simp only [Act.put, List.setIfInBounds_toArray, List.set_cons_zero, List.set_cons_succ, List.getElem_toArray, List.getElem_cons_zero, List.getElem_cons_succ]
              refine wpAnyH_take (i := 15) (v := ?v31) rfl (by kernel_rfl) (by kernel_rfl) (by kernel_rfl) (fun _ _ _ h => h) (Or.inl ⟨by rfl, ?hy31⟩) xx ?r31
              case hy31 => (intro w hSw; (try dsimp only at hSw); go_simp; first | done | with_reducible rfl)
              try simp only [Act.put, List.setIfInBounds_toArray, List.set_cons_zero, List.set_cons_succ, List.getElem_toArray, List.getElem_cons_zero, List.getElem_cons_succ]
              refine wpAnyH_take (i := 16) (v := ?v32) rfl (by kernel_rfl) (by kernel_rfl) (by kernel_rfl) (fun _ _ _ h => h) (Or.inl ⟨by rfl, ?hy32⟩) xx ?r32
              case hy32 => (intro w hSw; (try dsimp only at hSw); go_simp; first | done | with_reducible rfl)
              try simp only [Act.put, List.setIfInBounds_toArray, List.set_cons_zero, List.set_cons_succ, List.getElem_toArray, List.getElem_cons_zero, List.getElem_cons_succ]
              refine wpAnyH_done (by kernel_rfl) ?_ _
              refine NoPanic.normal ?_
              go_wp2
              go_ret
              exact ⟨ret_str (by rw [HP.out, HF2.out]; simp [tailT]), nextB K.out KK.out⟩
            · refine AllReadyH.cons rfl (fun K hK => ?_) AllReadyH.nil
              go_simp
              (go_at_call 79; refine (SFE.out _).mono ?_; rintro e wq ⟨rfl, hbq⟩; have BB := Lib.hid (block_below (at_a0 wr _ _) (fr_drewB hbq)); have KK := Lib.hid (below_a1 (fr_drewB hbq)); have xx : wq.cell? ⟨xb, 0, none⟩ = some (.int .i64 v) ∧ wq.cell? ⟨xb, 1, none⟩ = some (.int .i64 rv.toNat) ∧ wq.cell? ⟨xb, 2, none⟩ = some (.int .i64 fl.toNat) ∧ wq.cell? ⟨xb, 3, none⟩ = some (.slice a j cap) := ⟨cell_at (j := 0) (block_below X.out KK.out), cell_at (j := 1) (block_below X.out KK.out), cell_at (j := 2) (block_below X.out KK.out), cell_at (j := 3) (block_below X.out KK.out)⟩; have CV2 := conv_cells3 (P := Try.prog) wq wr.heap.size v rv.toNat fl.toNat 97 9 5 BB.out Try.underlying97 Try.underlying5 Try.underlying9; rw [u0, u1] at CV2; clear hbq; have hy := (Array.getElem?_eq_some_iff.1 (block_below X.out KK.out)).1; obtain ⟨y0, y1, y2, y3⟩ := cells4 ((block_below X.out KK.out)))
              refine hK.out _ _ xx (fun hHeld => ?_)
              clear hK K hHeld
              try simp only [Act.put, List.setIfInBounds_toArray, List.set_cons_zero, List.set_cons_succ, List.getElem_toArray, List.getElem_cons_zero, List.getElem_cons_succ]
              refine wpAnyH_ready (rs := [10]) (by kernel_rfl) (by simp) ?_
              refine AllReadyH.cons rfl (fun K hK => ?_) AllReadyH.nil
              go_simp
              refine hK.out _ _ xx (fun hHeld => ?_)
              clear hK K hHeld
              try simp only [Act.put, List.setIfInBounds_toArray, List.set_cons_zero, List.set_cons_succ, List.getElem_toArray, List.getElem_cons_zero, List.getElem_cons_succ]
              refine wpAnyH_take (i := 15) (v := ?v33) rfl (by kernel_rfl) (by kernel_rfl) (by kernel_rfl) (fun _ _ _ h => h) (Or.inl ⟨by rfl, ?hy33⟩) xx ?r33
              case hy33 => (intro w hSw; (try dsimp only at hSw); go_simp; first | done | with_reducible rfl)
              try simp only [Act.put, List.setIfInBounds_toArray, List.set_cons_zero, List.set_cons_succ, List.getElem_toArray, List.getElem_cons_zero, List.getElem_cons_succ]
              refine wpAnyH_take (i := 16) (v := ?v34) rfl (by kernel_rfl) (by kernel_rfl) (by kernel_rfl) (fun _ _ _ h => h) (Or.inl ⟨by rfl, ?hy34⟩) xx ?r34
              case hy34 => (intro w hSw; (try dsimp only at hSw); go_simp; first | done | with_reducible rfl)
              try simp only [Act.put, List.setIfInBounds_toArray, List.set_cons_zero, List.set_cons_succ, List.getElem_toArray, List.getElem_cons_zero, List.getElem_cons_succ]
              refine wpAnyH_done (by kernel_rfl) ?_ _
              refine NoPanic.normal ?_
              go_wp2
              go_ret
              exact ⟨ret_str (by rw [HP.out, HF2.out]; simp [tailT]), nextB K.out KK.out⟩
          · refine AllReadyH.cons rfl (fun K hK => ?_) AllReadyH.nil
            go_simp
            (go_at_call 79; refine (SFE.out _).mono ?_; rintro e wq ⟨rfl, hbq⟩; have KK := Lib.hid (fr_drewB hbq); have xx : wq.cell? ⟨xb, 0, none⟩ = some (.int .i64 v) ∧ wq.cell? ⟨xb, 1, none⟩ = some (.int .i64 rv.toNat) ∧ wq.cell? ⟨xb, 2, none⟩ = some (.int .i64 fl.toNat) ∧ wq.cell? ⟨xb, 3, none⟩ = some (.slice a j cap) := ⟨cell_at (j := 0) (block_below X.out KK.out), cell_at (j := 1) (block_below X.out KK.out), cell_at (j := 2) (block_below X.out KK.out), cell_at (j := 3) (block_below X.out KK.out)⟩; clear hbq; have hy := (Array.getElem?_eq_some_iff.1 (block_below X.out KK.out)).1; obtain ⟨y0, y1, y2, y3⟩ := cells4 ((block_below X.out KK.out)))
            refine hK.out _ _ xx (fun hHeld => ?_)
            clear hK K hHeld
            try simp only [Act.put, List.setIfInBounds_toArray, List.set_cons_zero, List.set_cons_succ, List.getElem_toArray, List.getElem_cons_zero, List.getElem_cons_succ]
            refine wpAnyH_ready (rs := [9]) (by kernel_rfl) (by simp) ?_
            refine AllReadyH.cons rfl (fun K hK => ?_) AllReadyH.nil
            go_simp
            have xx : ((wq.alloc (.cells #[.int .u8 v, .int .u8 rv.toNat, .int .u8 fl.toNat] 5))).cell? ⟨xb, 0, none⟩ = some (.int .i64 v) ∧ ((wq.alloc (.cells #[.int .u8 v, .int .u8 rv.toNat, .int .u8 fl.toNat] 5))).cell? ⟨xb, 1, none⟩ = some (.int .i64 rv.toNat) ∧ ((wq.alloc (.cells #[.int .u8 v, .int .u8 rv.toNat, .int .u8 fl.toNat] 5))).cell? ⟨xb, 2, none⟩ = some (.int .i64 fl.toNat) ∧ ((wq.alloc (.cells #[.int .u8 v, .int .u8 rv.toNat, .int .u8 fl.toNat] 5))).cell? ⟨xb, 3, none⟩ = some (.slice a j cap) := ⟨cell_at (j := 0) (block_below (block_below X.out KK.out) ((Below.refl _ _).alloc (Nat.le_refl _) _)), cell_at (j := 1) (block_below (block_below X.out KK.out) ((Below.refl _ _).alloc (Nat.le_refl _) _)), cell_at (j := 2) (block_below (block_below X.out KK.out) ((Below.refl _ _).alloc (Nat.le_refl _) _)), cell_at (j := 3) (block_below (block_below X.out KK.out) ((Below.refl _ _).alloc (Nat.le_refl _) _))⟩
            refine hK.out _ _ xx (fun hHeld => ?_)
            clear hK K hHeld
            try simp only [Act.put, List.setIfInBounds_toArray, List.set_cons_zero, List.set_cons_succ, List.getElem_toArray, List.getElem_cons_zero, List.getElem_cons_succ]
            refine wpAnyH_ready (rs := [10]) (by kernel_rfl) (by simp) ?_
            refine AllReadyH.cons rfl (fun K hK => ?_) AllReadyH.nil
            go_simp
            refine hK.out _ _ xx (fun hHeld => ?_)
            clear hK K hHeld
            try simp only [Act.put, List.setIfInBounds_toArray, List.set_cons_zero, List.set_cons_succ, List.getElem_toArray, List.getElem_cons_zero, List.getElem_cons_succ]
            refine wpAnyH_take (i := 15) (v := ?v35) rfl (by kernel_rfl) (by kernel_rfl) (by kernel_rfl) (fun _ _ _ h => h) (Or.inl ⟨by rfl, ?hy35⟩) xx ?r35
            case hy35 => (intro w hSw; (try dsimp only at hSw); go_simp; first | done | with_reducible rfl)
            try simp only [Act.put, List.setIfInBounds_toArray, List.set_cons_zero, List.set_cons_succ, List.getElem_toArray, List.getElem_cons_zero, List.getElem_cons_succ]
            refine wpAnyH_take (i := 16) (v := ?v36) rfl (by kernel_rfl) (by kernel_rfl) (by kernel_rfl) (fun _ _ _ h => h) (Or.inl ⟨by rfl, ?hy36⟩) xx ?r36
            case hy36 => (intro w hSw; (try dsimp only at hSw); go_simp; first | done | with_reducible rfl)
            try simp only [Act.put, List.setIfInBounds_toArray, List.set_cons_zero, List.set_cons_succ, List.getElem_toArray, List.getElem_cons_zero, List.getElem_cons_succ]
            refine wpAnyH_done (by kernel_rfl) ?_ _
            refine NoPanic.normal ?_
            go_wp2
            go_ret
            exact ⟨ret_str (by rw [HP.out, HF2.out]; simp [tailT]), (nextB K.out KK.out).alloc (nextB K.out KK.out).size _⟩
      · have t4 : (v == 4) = true := by simp; omega
        have d4 : decide (v < 4) = false := by simpa using h4
        have e4 : decide (v = 4) = true := by simp; omega
        rw [d4, Bool.false_and] at HB2
        rw [e4, Bool.true_and] at HF
        clear d4 e4
        have HF2 := HF
        have HB3 := Lib.hid (show bl = bo by rw [HB2.out]; rfl)
        generalize tb fl 16 = ub at *
        go_upto_region 8 with (fail)
        rw [HB3.out]
        have xx : (wr.drew).cell? ⟨xb, 0, none⟩ = some (.int .i64 v) ∧ (wr.drew).cell? ⟨xb, 1, none⟩ = some (.int .i64 rv.toNat) ∧ (wr.drew).cell? ⟨xb, 2, none⟩ = some (.int .i64 fl.toNat) ∧ (wr.drew).cell? ⟨xb, 3, none⟩ = some (.slice a j cap) := ⟨cell_at (j := 0) (X.out), cell_at (j := 1) (X.out), cell_at (j := 2) (X.out), cell_at (j := 3) (X.out)⟩
        have xxA : (((wr.alloc (.cells #[.int .u8 v, .int .u8 rv.toNat, .int .u8 fl.toNat] 5)).drew)).cell? ⟨xb, 0, none⟩ = some (.int .i64 v) ∧ (((wr.alloc (.cells #[.int .u8 v, .int .u8 rv.toNat, .int .u8 fl.toNat] 5)).drew)).cell? ⟨xb, 1, none⟩ = some (.int .i64 rv.toNat) ∧ (((wr.alloc (.cells #[.int .u8 v, .int .u8 rv.toNat, .int .u8 fl.toNat] 5)).drew)).cell? ⟨xb, 2, none⟩ = some (.int .i64 fl.toNat) ∧ (((wr.alloc (.cells #[.int .u8 v, .int .u8 rv.toNat, .int .u8 fl.toNat] 5)).drew)).cell? ⟨xb, 3, none⟩ = some (.slice a j cap) := ⟨cell_at (j := 0) (block_below X.out (((Below.refl _ _).alloc (Nat.le_refl _) _).drew)), cell_at (j := 1) (block_below X.out (((Below.refl _ _).alloc (Nat.le_refl _) _).drew)), cell_at (j := 2) (block_below X.out (((Below.refl _ _).alloc (Nat.le_refl _) _).drew)), cell_at (j := 3) (block_below X.out (((Below.refl _ _).alloc (Nat.le_refl _) _).drew))⟩
        have hxw2 := (Array.getElem?_eq_some_iff.1 X.out).1
        have CV1 := conv_cells3 (P := Try.prog) ((wr.alloc (.cells #[.int .u8 v, .int .u8 rv.toNat, .int .u8 fl.toNat] 5)).drew) wr.heap.size v rv.toNat fl.toNat 97 9 5 (at_a0 wr _ _) Try.underlying97 Try.underlying5 Try.underlying9
        rw [u0, u1] at CV1
        refine wp_region_noPanic ?_
        refine wp_region_held_drew (S := fun w' => w'.cell? ⟨xb, 0, none⟩ = some (.int .i64 v) ∧ w'.cell? ⟨xb, 1, none⟩ = some (.int .i64 rv.toNat) ∧ w'.cell? ⟨xb, 2, none⟩ = some (.int .i64 fl.toNat) ∧ w'.cell? ⟨xb, 3, none⟩ = some (.slice a j cap)) (by kernel_rfl) xx (fun hHeld => ?_)
        clear hHeld
        try simp only [Act.put, List.setIfInBounds_toArray, List.set_cons_zero, List.set_cons_succ, List.getElem_toArray, List.getElem_cons_zero, List.getElem_cons_succ]
        refine wpAnyH_take (i := 0) (v := ?v37) rfl (by kernel_rfl) (by kernel_rfl) (by kernel_rfl) (fun _ _ _ h => h) (Or.inl ⟨by rfl, ?hy37⟩) xx ?r37
        case hy37 => (intro w hSw; (try dsimp only at hSw); go_simp; first | done | with_reducible rfl)
        try simp only [Act.put, List.setIfInBounds_toArray, List.set_cons_zero, List.set_cons_succ, List.getElem_toArray, List.getElem_cons_zero, List.getElem_cons_succ]
        refine wpAnyH_take (i := 1) (v := ?v38) rfl (by kernel_rfl) (by kernel_rfl) (by kernel_rfl) (fun _ _ _ h => h) (Or.inl ⟨by rfl, ?hy38⟩) xx ?r38
        case hy38 => (intro w hSw; (try dsimp only at hSw); go_simp; first | done | with_reducible rfl)
        try simp only [Act.put, List.setIfInBounds_toArray, List.set_cons_zero, List.set_cons_succ, List.getElem_toArray, List.getElem_cons_zero, List.getElem_cons_succ]
        refine wpAnyH_take (i := 2) (v := ?v39) rfl (by kernel_rfl) (by kernel_rfl) (by kernel_rfl) (fun _ _ _ h => h) (Or.inl ⟨by rfl, ?hy39⟩) xx ?r39
        case hy39 => (intro w hSw; (try dsimp only at hSw); go_simp; first | done | with_reducible rfl)
        try simp only [Act.put, List.setIfInBounds_toArray, List.set_cons_zero, List.set_cons_succ, List.getElem_toArray, List.getElem_cons_zero, List.getElem_cons_succ]
        refine wpAnyH_take (i := 3) (v := ?v40) rfl (by kernel_rfl) (by kernel_rfl) (by kernel_rfl) (fun _ _ _ h => h) (Or.inl ⟨by rfl, ?hy40⟩) xx ?r40
        case hy40 => (intro w hSw; (try dsimp only at hSw); go_simp; first | done | with_reducible rfl)
        try simp only [Act.put, List.setIfInBounds_toArray, List.set_cons_zero, List.set_cons_succ, List.getElem_toArray, List.getElem_cons_zero, List.getElem_cons_succ]
        refine wpAnyH_take (i := 4) (v := ?v41) rfl (by kernel_rfl) (by kernel_rfl) (by kernel_rfl) (fun _ _ _ h => h) (Or.inl ⟨by rfl, ?hy41⟩) xx ?r41
        case hy41 => (intro w hSw; (try dsimp only at hSw); go_simp; first | done | with_reducible rfl)
        try simp only [Act.put, List.setIfInBounds_toArray, List.set_cons_zero, List.set_cons_succ, List.getElem_toArray, List.getElem_cons_zero, List.getElem_cons_succ]
        refine wpAnyH_take (i := 5) (v := ?v42) rfl (by kernel_rfl) (by kernel_rfl) (by kernel_rfl) (fun _ _ _ h => h) (Or.inl ⟨by rfl, ?hy42⟩) xx ?r42
        case hy42 => (intro w hSw; (try dsimp only at hSw); go_simp; first | done | with_reducible rfl)
        try simp only [Act.put, List.setIfInBounds_toArray, List.set_cons_zero, List.set_cons_succ, List.getElem_toArray, List.getElem_cons_zero, List.getElem_cons_succ]
        refine wpAnyH_take (i := 6) (v := ?v43) rfl (by kernel_rfl) (by kernel_rfl) (by kernel_rfl) (fun _ _ _ h => h) (Or.inl ⟨by rfl, ?hy43⟩) xx ?r43
        case hy43 => (intro w hSw; (try dsimp only at hSw); go_simp; first | done | with_reducible rfl)
        try simp only [Act.put, List.setIfInBounds_toArray, List.set_cons_zero, List.set_cons_succ, List.getElem_toArray, List.getElem_cons_zero, List.getElem_cons_succ]
        refine wpAnyH_take (i := 7) (v := ?v44) rfl (by kernel_rfl) (by kernel_rfl) (by kernel_rfl) (fun _ _ _ h => h) (Or.inl ⟨by rfl, ?hy44⟩) xx ?r44
        case hy44 => (intro w hSw; (try dsimp only at hSw); go_simp; first | done | with_reducible rfl)
        try simp only [Act.put, List.setIfInBounds_toArray, List.set_cons_zero, List.set_cons_succ, List.getElem_toArray, List.getElem_cons_zero, List.getElem_cons_succ]
        refine wpAnyH_take (i := 8) (v := ?v45) rfl (by kernel_rfl) (by kernel_rfl) (by kernel_rfl) (fun _ _ _ h => h) (Or.inl ⟨by rfl, ?hy45⟩) xx ?r45
        case hy45 => (intro w hSw; (try dsimp only at hSw); go_simp; first | done | with_reducible rfl)
        try simp only [Act.put, List.setIfInBounds_toArray, List.set_cons_zero, List.set_cons_succ, List.getElem_toArray, List.getElem_cons_zero, List.getElem_cons_succ]
        refine wpAnyH_take (i := 11) (v := ?v46) rfl (by kernel_rfl) (by kernel_rfl) (by kernel_rfl) (fun _ _ _ h => h) (Or.inl ⟨by rfl, ?hy46⟩) xx ?r46
        case hy46 => (intro w hSw; (try dsimp only at hSw); go_simp; first | done | with_reducible rfl)
        try simp only [Act.put, List.setIfInBounds_toArray, List.set_cons_zero, List.set_cons_succ, List.getElem_toArray, List.getElem_cons_zero, List.getElem_cons_succ]
        refine wpAnyH_take (i := 12) (v := ?v47) rfl (by kernel_rfl) (by kernel_rfl) (by kernel_rfl) (fun _ _ _ h => h) (Or.inl ⟨by rfl, ?hy47⟩) xx ?r47
        case hy47 => (intro w hSw; (try dsimp only at hSw); go_simp; first | done | with_reducible rfl)
        try simp only [Act.put, List.setIfInBounds_toArray, List.set_cons_zero, List.set_cons_succ, List.getElem_toArray, List.getElem_cons_zero, List.getElem_cons_succ]
        refine wpAnyH_take (i := 13) (v := ?v48) rfl (by kernel_rfl) (by kernel_rfl) (by kernel_rfl) (fun _ _ _ h => h) (Or.inl ⟨by rfl, ?hy48⟩) xx ?r48
        case hy48 => (intro w hSw; (try dsimp only at hSw); go_simp; first | done | with_reducible rfl)
        try simp only [Act.put, List.setIfInBounds_toArray, List.set_cons_zero, List.set_cons_succ, List.getElem_toArray, List.getElem_cons_zero, List.getElem_cons_succ]
        refine wpAnyH_ready (rs := [9, 14]) (by kernel_rfl) (by simp) ?_
        refine AllReadyH.cons rfl (fun K hK => ?_) ?_
        · go_simp
          have xx := xxA
          refine hK.out _ _ xx (fun hHeld => ?_)
          clear hK K hHeld
          try simp only [Act.put, List.setIfInBounds_toArray, List.set_cons_zero, List.set_cons_succ, List.getElem_toArray, List.getElem_cons_zero, List.getElem_cons_succ]
          refine wpAnyH_ready (rs := [10, 14]) (by kernel_rfl) (by simp) ?_
          refine AllReadyH.cons rfl (fun K hK => ?_) ?_
          · go_simp
            refine hK.out _ _ xx (fun hHeld => ?_)
            clear hK K hHeld
            try simp only [Act.put, List.setIfInBounds_toArray, List.set_cons_zero, List.set_cons_succ, List.getElem_toArray, List.getElem_cons_zero, List.getElem_cons_succ]
            refine wpAnyH_ready (rs := [14]) (by kernel_rfl) (by simp) ?_
            refine AllReadyH.cons rfl (fun K hK => ?_) AllReadyH.nil
            go_simp
            (go_at_call 79; refine (SFE.out _).mono ?_; rintro e wq ⟨rfl, hbq⟩; have BB := Lib.hid (block_below (at_a0 wr _ _) (fr_drewB hbq)); have KK := Lib.hid (below_a1 (fr_drewB hbq)); have xx : wq.cell? ⟨xb, 0, none⟩ = some (.int .i64 v) ∧ wq.cell? ⟨xb, 1, none⟩ = some (.int .i64 rv.toNat) ∧ wq.cell? ⟨xb, 2, none⟩ = some (.int .i64 fl.toNat) ∧ wq.cell? ⟨xb, 3, none⟩ = some (.slice a j cap) := ⟨cell_at (j := 0) (block_below X.out KK.out), cell_at (j := 1) (block_below X.out KK.out), cell_at (j := 2) (block_below X.out KK.out), cell_at (j := 3) (block_below X.out KK.out)⟩; have CV2 := conv_cells3 (P := Try.prog) wq wr.heap.size v rv.toNat fl.toNat 97 9 5 BB.out Try.underlying97 Try.underlying5 Try.underlying9; rw [u0, u1] at CV2; clear hbq; have hy := (Array.getElem?_eq_some_iff.1 (block_below X.out KK.out)).1; obtain ⟨y0, y1, y2, y3⟩ := cells4 ((block_below X.out KK.out)))
            refine hK.out _ _ xx (fun hHeld => ?_)
            clear hK K hHeld
            try simp only [Act.put, List.setIfInBounds_toArray, List.set_cons_zero, List.set_cons_succ, List.getElem_toArray, List.getElem_cons_zero, List.getElem_cons_succ]
            refine wpAnyH_take (i := 15) (v := ?v49) rfl (by kernel_rfl) (by kernel_rfl) (by kernel_rfl) (fun _ _ _ h => h) (Or.inl ⟨by rfl, ?hy49⟩) xx ?r49
            case hy49 => (intro w hSw; (try dsimp only at hSw); go_simp; first | done | with_reducible rfl)
            try simp only [Act.put, List.setIfInBounds_toArray, List.set_cons_zero, List.set_cons_succ, List.getElem_toArray, List.getElem_cons_zero, List.getElem_cons_succ]
            refine wpAnyH_take (i := 16) (v := ?v50) rfl (by kernel_rfl) (by kernel_rfl) (by kernel_rfl) (fun _ _ _ h => h) (Or.inl ⟨by rfl, ?hy50⟩) xx ?r50
            case hy50 => (intro w hSw; (try dsimp only at hSw); go_simp; first | done | with_reducible rfl)
            try simp only [Act.put, List.setIfInBounds_toArray, List.set_cons_zero, List.set_cons_succ, List.getElem_toArray, List.getElem_cons_zero, List.getElem_cons_succ]
            refine wpAnyH_done (by kernel_rfl) ?_ _
            refine NoPanic.normal ?_
            rcases ub with _ | _
            all_goals (go_wp2_with (go_at_call 28; refine (BF.out _).mono ?_; rintro e wx ⟨rfl, rfl⟩); go_ret; exact ⟨ret_str (by rw [HP.out, HF2.out]; simp [tailT]), nextB K.out KK.out⟩)
          · refine AllReadyH.cons rfl (fun K hK => ?_) AllReadyH.nil
            go_simp
            (go_at_call 79; refine (SFE.out _).mono ?_; rintro e wq ⟨rfl, hbq⟩; have BB := Lib.hid (block_below (at_a0 wr _ _) (fr_drewB hbq)); have KK := Lib.hid (below_a1 (fr_drewB hbq)); have xx : wq.cell? ⟨xb, 0, none⟩ = some (.int .i64 v) ∧ wq.cell? ⟨xb, 1, none⟩ = some (.int .i64 rv.toNat) ∧ wq.cell? ⟨xb, 2, none⟩ = some (.int .i64 fl.toNat) ∧ wq.cell? ⟨xb, 3, none⟩ = some (.slice a j cap) := ⟨cell_at (j := 0) (block_below X.out KK.out), cell_at (j := 1) (block_below X.out KK.out), cell_at (j := 2) (block_below X.out KK.out), cell_at (j := 3) (block_below X.out KK.out)⟩; have CV2 := conv_cells3 (P := Try.prog) wq wr.heap.size v rv.toNat fl.toNat 97 9 5 BB.out Try.underlying97 Try.underlying5 Try.underlying9; rw [u0, u1] at CV2; clear hbq; have hy := (Array.getElem?_eq_some_iff.1 (block_below X.out KK.out)).1; obtain ⟨y0, y1, y2, y3⟩ := cells4 ((block_below X.out KK.out)))
            refine hK.out _ _ xx (fun hHeld => ?_)
            clear hK K hHeld
            try simp only [Act.put, List.setIfInBounds_toArray, List.set_cons_zero, List.set_cons_succ, List.getElem_toArray, List.getElem_cons_zero, List.getElem_cons_succ]
            refine wpAnyH_ready (rs := [10]) (by kernel_rfl) (by simp) ?_
            refine AllReadyH.cons rfl (fun K hK => ?_) AllReadyH.nil
            go_simp
            refine hK.out _ _ xx (fun hHeld => ?_)
            clear hK K hHeld
            try simp only [Act.put, List.setIfInBounds_toArray, List.set_cons_zero, List.set_cons_succ, List.getElem_toArray, List.getElem_cons_zero, List.getElem_cons_succ]
            refine wpAnyH_take (i := 15) (v := ?v51) rfl (by kernel_rfl) (by kernel_rfl) (by kernel_rfl) (fun _ _ _ h => h) (Or.inl ⟨by rfl, ?hy51⟩) xx ?r51
            case hy51 => (intro w hSw; (try dsimp only at hSw); go_simp; first | done | with_reducible rfl)
            try simp only [Act.put, List.setIfInBounds_toArray, List.set_cons_zero, List.set_cons_succ, List.getElem_toArray, List.getElem_cons_zero, List.getElem_cons_succ]
            refine wpAnyH_take (i := 16) (v := ?v52) rfl (by kernel_rfl) (by kernel_rfl) (by kernel_rfl) (fun _ _ _ h => h) (Or.inl ⟨by rfl, ?hy52⟩) xx ?r52
            case hy52 => (intro w hSw; (try dsimp only at hSw); go_simp; first | done | with_reducible rfl)
            try simp only [Act.put, List.setIfInBounds_toArray, List.set_cons_zero, List.set_cons_succ, List.getElem_toArray, List.getElem_cons_zero, List.getElem_cons_succ]
            refine wpAnyH_done (by kernel_rfl) ?_ _
            refine NoPanic.normal ?_
            rcases ub with _ | _
            all_goals (go_wp2_with (go_at_call 28; refine (BF.out _).mono ?_; rintro e wx ⟨rfl, rfl⟩); go_ret; exact ⟨ret_str (by rw [HP.out, HF2.out]; simp [tailT]), nextB K.out KK.out⟩)
        · refine AllReadyH.cons rfl (fun K hK => ?_) AllReadyH.nil
          go_simp
          (go_at_call 79; refine (SFE.out _).mono ?_; rintro e wq ⟨rfl, hbq⟩; have KK := Lib.hid (fr_drewB hbq); have xx : wq.cell? ⟨xb, 0, none⟩ = some (.int .i64 v) ∧ wq.cell? ⟨xb, 1, none⟩ = some (.int .i64 rv.toNat) ∧ wq.cell? ⟨xb, 2, none⟩ = some (.int .i64 fl.toNat) ∧ wq.cell? ⟨xb, 3, none⟩ = some (.slice a j cap) := ⟨cell_at (j := 0) (block_below X.out KK.out), cell_at (j := 1) (block_below X.out KK.out), cell_at (j := 2) (block_below X.out KK.out), cell_at (j := 3) (block_below X.out KK.out)⟩; clear hbq; have hy := (Array.getElem?_eq_some_iff.1 (block_below X.out KK.out)).1; obtain ⟨y0, y1, y2, y3⟩ := cells4 ((block_below X.out KK.out)))
          refine hK.out _ _ xx (fun hHeld => ?_)
          clear hK K hHeld
          try simp only [Act.put, List.setIfInBounds_toArray, List.set_cons_zero, List.set_cons_succ, List.getElem_toArray, List.getElem_cons_zero, List.getElem_cons_succ]
          refine wpAnyH_ready (rs := [9]) (by kernel_rfl) (by simp) ?_
          refine AllReadyH.cons rfl (fun K hK => ?_) AllReadyH.nil
          go_simp
          have xx : ((wq.alloc (.cells #[.int .u8 v, .int .u8 rv.toNat, .int .u8 fl.toNat] 5))).cell? ⟨xb, 0, none⟩ = some (.int .i64 v) ∧ ((wq.alloc (.cells #[.int .u8 v, .int .u8 rv.toNat, .int .u8 fl.toNat] 5))).cell? ⟨xb, 1, none⟩ = some (.int .i64 rv.toNat) ∧ ((wq.alloc (.cells #[.int .u8 v, .int .u8 rv.toNat, .int .u8 fl.toNat] 5))).cell? ⟨xb, 2, none⟩ = some (.int .i64 fl.toNat) ∧ ((wq.alloc (.cells #[.int .u8 v, .int .u8 rv.toNat, .int .u8 fl.toNat] 5))).cell? ⟨xb, 3, none⟩ = some (.slice a j cap) := ⟨cell_at (j := 0) (block_below (block_below X.out KK.out) ((Below.refl _ _).alloc (Nat.le_refl _) _)), cell_at (j := 1) (block_below (block_below X.out KK.out) ((Below.refl _ _).alloc (Nat.le_refl _) _)), cell_at (j := 2) (block_below (block_below X.out KK.out) ((Below.refl _ _).alloc (Nat.le_refl _) _)), cell_at (j := 3) (block_below (block_below X.out KK.out) ((Below.refl _ _).alloc (Nat.le_refl _) _))⟩
          refine hK.out _ _ xx (fun hHeld => ?_)
          clear hK K hHeld
          try simp only [Act.put, List.setIfInBounds_toArray, List.set_cons_zero, List.set_cons_succ, List.getElem_toArray, List.getElem_cons_zero, List.getElem_cons_succ]
          refine wpAnyH_ready (rs := [10]) (by kernel_rfl) (by simp) ?_
          refine AllReadyH.cons rfl (fun K hK => ?_) AllReadyH.nil
          go_simp
          refine hK.out _ _ xx (fun hHeld => ?_)
          clear hK K hHeld
          try simp only [Act.put, List.setIfInBounds_toArray, List.set_cons_zero, List.set_cons_succ, List.getElem_toArray, List.getElem_cons_zero, List.getElem_cons_succ]
          refine wpAnyH_take (i := 15) (v := ?v53) rfl (by kernel_rfl) (by kernel_rfl) (by kernel_rfl) (fun _ _ _ h => h) (Or.inl ⟨by rfl, ?hy53⟩) xx ?r53
          case hy53 => (intro w hSw; (try dsimp only at hSw); go_simp; first | done | with_reducible rfl)
          try simp only [Act.put, List.setIfInBounds_toArray, List.set_cons_zero, List.set_cons_succ, List.getElem_toArray, List.getElem_cons_zero, List.getElem_cons_succ]
          refine wpAnyH_take (i := 16) (v := ?v54) rfl (by kernel_rfl) (by kernel_rfl) (by kernel_rfl) (fun _ _ _ h => h) (Or.inl ⟨by rfl, ?hy54⟩) xx ?r54
          case hy54 => (intro w hSw; (try dsimp only at hSw); go_simp; first | done | with_reducible rfl)
          try simp only [Act.put, List.setIfInBounds_toArray, List.set_cons_zero, List.set_cons_succ, List.getElem_toArray, List.getElem_cons_zero, List.getElem_cons_succ]
          refine wpAnyH_done (by kernel_rfl) ?_ _
          refine NoPanic.normal ?_
          rcases ub with _ | _
          all_goals (go_wp2_with (go_at_call 28; refine (BF.out _).mono ?_; rintro e wx ⟨rfl, rfl⟩); go_ret; exact ⟨ret_str (by rw [HP.out, HF2.out]; simp [tailT]), (nextB K.out KK.out).alloc (nextB K.out KK.out).size _⟩)
end Go.Proofs.Ytmnmonmbdgedbaa
