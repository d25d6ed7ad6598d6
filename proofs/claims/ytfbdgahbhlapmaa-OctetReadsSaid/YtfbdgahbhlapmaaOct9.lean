/- The walk of the law's do, the other kinds: Peek, Rest, Big, Small. -/
import Derived.Test.YtfbdgahbhlapmaaOct8
import Derived.Deep.DeepCutAuto
namespace Go.Proofs.Ytfbdgahbhlapmaa
open Go.RowKit

set_option maxHeartbeats 2000000 in
set_option maxRecDepth 100000 in
theorem do_peek (b : Nat) (m : Rd) (n c : Int) (s : List UInt8) (w : World) (h : RdAt w b m) (hm : m.Ok) : Calls Try.prog 45 #[.pointer (some ⟨b, 0, none⟩), rdV m, opV 2 n c s] w (DoSays b m w) := by
  have HR := Lib.hid (fun w => rpeek_any m n w hm)
  have HP := Lib.hid (fun w h => peek_any b m n w h hm)
  have hlt := h.lt
  unfold DoSays
  generalize m.peek n = l at *
  have n1 : w.heap.size ≠ b := by omega
  have n2 : w.heap.size + 1 ≠ b := by omega
  have n3 : w.heap.size + 1 + 1 ≠ b := by omega
  go_enter Try.func45, Try.ntmps45
  go_wp2
  have hM : InAt 58 (((w.alloc (.cells #[.string ⟨m.t.toArray⟩, .int .i64 m.nx, .int .i64 m.bs, .int .i64 m.cd, .int .i64 m.pl] 58)).alloc (.cells #[.int .i64 2, .int .i64 n, .int .i64 c, .string ⟨s.toArray⟩] 60)).alloc (.cells #[.string ⟨#[]⟩, .int .i64 0, .int .i64 0, .int .i64 0, .int .i64 0] 58)) w.heap.size m := (heap_alloc_old _ _ (by simp; omega)).trans (at_a1 _ _ _ _)
  have hO : (((w.alloc (.cells #[.string ⟨m.t.toArray⟩, .int .i64 m.nx, .int .i64 m.bs, .int .i64 m.cd, .int .i64 m.pl] 58)).alloc (.cells #[.int .i64 2, .int .i64 n, .int .i64 c, .string ⟨s.toArray⟩] 60)).alloc (.cells #[.string ⟨#[]⟩, .int .i64 0, .int .i64 0, .int .i64 0, .int .i64 0] 58)).heap[w.heap.size + 1]? = some (.cells #[.int .i64 2, .int .i64 n, .int .i64 c, .string ⟨s.toArray⟩] 60 (0, 0)) := (heap_alloc_old _ _ (by simp)).trans (at_a2 _ _ _ _)
  have hZ : InAt 58 (((w.alloc (.cells #[.string ⟨m.t.toArray⟩, .int .i64 m.nx, .int .i64 m.bs, .int .i64 m.cd, .int .i64 m.pl] 58)).alloc (.cells #[.int .i64 2, .int .i64 n, .int .i64 c, .string ⟨s.toArray⟩] 60)).alloc (.cells #[.string ⟨#[]⟩, .int .i64 0, .int .i64 0, .int .i64 0, .int .i64 0] 58)) (w.heap.size + 1 + 1) Rd.zero := at_a3 _ _ _ _ _
  have hR := ((h.alloc (.cells #[.string ⟨m.t.toArray⟩, .int .i64 m.nx, .int .i64 m.bs, .int .i64 m.cd, .int .i64 m.pl] 58)).alloc (.cells #[.int .i64 2, .int .i64 n, .int .i64 c, .string ⟨s.toArray⟩] 60)).alloc (.cells #[.string ⟨#[]⟩, .int .i64 0, .int .i64 0, .int .i64 0, .int .i64 0] 58)
  have hBW : Below w.heap.size w (((w.alloc (.cells #[.string ⟨m.t.toArray⟩, .int .i64 m.nx, .int .i64 m.bs, .int .i64 m.cd, .int .i64 m.pl] 58)).alloc (.cells #[.int .i64 2, .int .i64 n, .int .i64 c, .string ⟨s.toArray⟩] 60)).alloc (.cells #[.string ⟨#[]⟩, .int .i64 0, .int .i64 0, .int .i64 0, .int .i64 0] 58)) := (((Below.refl _ _).alloc (Nat.le_refl _) _).alloc (by simp) _).alloc (by simp; omega) _
  generalize (((w.alloc (.cells #[.string ⟨m.t.toArray⟩, .int .i64 m.nx, .int .i64 m.bs, .int .i64 m.cd, .int .i64 m.pl] 58)).alloc (.cells #[.int .i64 2, .int .i64 n, .int .i64 c, .string ⟨s.toArray⟩] 60)).alloc (.cells #[.string ⟨#[]⟩, .int .i64 0, .int .i64 0, .int .i64 0, .int .i64 0] 58)) = W at *
  have hW : w.heap.size + 1 + 1 < W.heap.size := hZ.lt
  have hz1 : w.heap.size + 1 < w.heap.size + 1 + 1 := by omega
  generalize w.heap.size + 1 + 1 = zb at *
  have n4 : w.heap.size ≠ zb := by omega
  have n5 : zb ≠ w.heap.size := by omega
  have n6 : w.heap.size + 1 ≠ zb := by omega
  have n7 : zb ≠ w.heap.size + 1 := by omega
  obtain ⟨⟨c0, c1, c2, c3, c4⟩, _, _, _, _, _⟩ := hM.all
  obtain ⟨⟨d0, d1, d2, d3, d4⟩, g0, g1, g2, g3, g4⟩ := hZ.all
  have o1 : W.cell? ⟨w.heap.size + 1, 1, none⟩ = some (.int .i64 n) := cell_at hO
  have HR1 := Lib.hid hR
  have HZ1 := Lib.hid hZ
  have HBW := Lib.hid hBW
  clear hM hZ hR hO hBW
  go_region_held3 (fun w' => w'.cell? ⟨w.heap.size, 0, none⟩ = some (.string ⟨m.t.toArray⟩) ∧ w'.cell? ⟨w.heap.size, 1, none⟩ = some (.int .i64 m.nx) ∧ w'.cell? ⟨w.heap.size, 2, none⟩ = some (.int .i64 m.bs) ∧ w'.cell? ⟨w.heap.size, 3, none⟩ = some (.int .i64 m.cd) ∧ w'.cell? ⟨w.heap.size, 4, none⟩ = some (.int .i64 m.pl) ∧ w'.cell? ⟨w.heap.size + 1, 1, none⟩ = some (.int .i64 n)) (go_keep)
    (first | (go_at_call 51; refine (HP.out _ ?_).mono ?_; (exact HR1.out); rintro e w3 ⟨rfl, hb3⟩; obtain ⟨hcc, hff⟩ := bcell hb3; have x0 := hcc w.heap.size 0 (by simp; omega); have x1 := hcc w.heap.size 1 (by simp; omega); have x2 := hcc w.heap.size 2 (by simp; omega); have x3 := hcc w.heap.size 3 (by simp; omega); have x4 := hcc w.heap.size 4 (by simp; omega); have x5 := hcc (w.heap.size + 1) 1 (by simp; omega); have HB3 := Lib.hid hb3; have hs3 : zb < w3.heap.size := (by have := hb3.size; simp at this; omega); clear hcc hff hb3) | (go_at_call 65; refine (HR.out _).mono ?_; rintro e w4 ⟨rfl, hb4⟩; obtain ⟨hcc, hff⟩ := bcell hb4; have x0 := hcc w.heap.size 0 (by omega); have x1 := hcc w.heap.size 1 (by omega); have x2 := hcc w.heap.size 2 (by omega); have x3 := hcc w.heap.size 3 (by omega); have x4 := hcc w.heap.size 4 (by omega); have x5 := hcc (w.heap.size + 1) 1 (by omega); have HB4 := Lib.hid hb4; obtain ⟨⟨d0, d1, d2, d3, d4⟩, g0, g1, g2, g3, g4⟩ := ((HZ1.out.below (show Below W.heap.size W w3 from ⟨HB3.out.os, HB3.out.tape, HB3.out.output, HB3.out.size, HB3.out.block⟩)).below hb4).all; clear hcc hff hb4))
  go_wp2
  have hb3 : Below W.heap.size W w3 := ⟨HB3.out.os, HB3.out.tape, HB3.out.output, HB3.out.size, HB3.out.block⟩
  have HR3 := Lib.hid ((HR1.out.below hb3).below HB4.out)
  have HO3 := Lib.hid ((Only.of_below (b := b) HBW.out).trans ((Only.of_below hb3).trans (Only.of_below HB4.out)))
  exact end_cell_tmp rfl rfl rfl (store5 ((HZ1.out.below hb3).below HB4.out) rfl) Try.underlying58 rfl info_ref01In ⟨rfl, by repeat (first | with_reducible refine InAt.put ?_ (by omega) _ | with_reducible exact HR3.out), by repeat (first | with_reducible refine Only.put ?_ (by omega) _ | with_reducible exact HO3.out)⟩
/-- what lies behind the first statement of do's kinds with two statements -/
structure DoMid (b zb : Nat) (m m' : Rd) (k n c : Int) (s : List UInt8) (w wx : World) (xb : Nat) : Prop where
  x : InAt 58 wx xb m'
  r : RdAt wx b m
  o : wx.heap[w.heap.size + 1]? = some (.cells #[.int .i64 k, .int .i64 n, .int .i64 c, .string ⟨s.toArray⟩] 60 (0, 0))
  z : InAt 58 wx zb Rd.zero
  b : Below w.heap.size w wx
  lt : zb < xb

theorem mid_last {b zb : Nat} {m m' : Rd} {k n c : Int} {s : List UInt8} {w W w4 : World} (hr : RdAt W b m) (ho : W.heap[w.heap.size + 1]? = some (.cells #[.int .i64 k, .int .i64 n, .int .i64 c, .string ⟨s.toArray⟩] 60 (0, 0)))
    (hz : InAt 58 W zb Rd.zero) (hB : Below w.heap.size w W) (h4 : Below W.heap.size W w4) :
    DoMid b zb m m' k n c s w (w4.alloc (.cells #[.string ⟨m'.t.toArray⟩, .int .i64 m'.nx, .int .i64 m'.bs, .int .i64 m'.cd, .int .i64 m'.pl] 58)) w4.heap.size :=
  ⟨at_a0 _ _ _, (hr.below h4).alloc _, (heap_alloc_old _ _ (Array.getElem?_eq_some_iff.1 (block_below ho h4)).1).trans (block_below ho h4), (hz.below h4).alloc _, (nextB hB h4).alloc (nextB hB h4).size _, (hz.below h4).lt⟩
theorem mid_first {b zb : Nat} {m m' : Rd} {k n c : Int} {s : List UInt8} {w W w4 : World} (hr : RdAt W b m) (ho : W.heap[w.heap.size + 1]? = some (.cells #[.int .i64 k, .int .i64 n, .int .i64 c, .string ⟨s.toArray⟩] 60 (0, 0)))
    (hz : InAt 58 W zb Rd.zero) (hB : Below w.heap.size w W) (hb : b < W.heap.size)
    (h4 : Below (W.alloc (.cells #[.string ⟨#[]⟩, .int .i64 0, .int .i64 0, .int .i64 0, .int .i64 0] 58)).heap.size (W.alloc (.cells #[.string ⟨#[]⟩, .int .i64 0, .int .i64 0, .int .i64 0, .int .i64 0] 58)) w4) :
    DoMid b zb m m' k n c s w (((((w4.setCell ⟨W.heap.size, 0, none⟩ (.string ⟨m'.t.toArray⟩)).setCell ⟨W.heap.size, 1, none⟩ (.int .i64 m'.nx)).setCell ⟨W.heap.size, 2, none⟩ (.int .i64 m'.bs)).setCell ⟨W.heap.size, 3, none⟩ (.int .i64 m'.cd)).setCell ⟨W.heap.size, 4, none⟩ (.int .i64 m'.pl)) W.heap.size := by
  have e0 : InAt 58 w4 W.heap.size Rd.zero := block_below (at_a0 _ _ _) h4
  have e1 := (hr.alloc (.cells #[.string ⟨#[]⟩, .int .i64 0, .int .i64 0, .int .i64 0, .int .i64 0] 58)).below h4
  have e2 := (hz.alloc (.cells #[.string ⟨#[]⟩, .int .i64 0, .int .i64 0, .int .i64 0, .int .i64 0] 58)).below h4
  have lo := (Array.getElem?_eq_some_iff.1 ho).1
  have e3 := block_below ((heap_alloc_old W (.cells #[.string ⟨#[]⟩, .int .i64 0, .int .i64 0, .int .i64 0, .int .i64 0] 58) lo).trans ho) h4
  have e4 : Below w.heap.size w w4 := nextB (hB.alloc hB.size _) h4
  have hzl := hz.lt
  refine ⟨store5 e0 rfl, ?_, ?_, ?_, ?_, hzl⟩
  · exact ((((e1.put (by omega) _).put (by omega) _).put (by omega) _).put (by omega) _).put (by omega) _
  · rw [heap_set_other _ (by omega), heap_set_other _ (by omega), heap_set_other _ (by omega), heap_set_other _ (by omega), heap_set_other _ (by omega)]
    exact e3
  · exact ((((e2.put (by omega) _).put (by omega) _).put (by omega) _).put (by omega) _).put (by omega) _
  · exact ((((e4.setCell hB.size _).setCell hB.size _).setCell hB.size _).setCell hB.size _).setCell hB.size _

set_option maxHeartbeats 2000000 in
set_option maxRecDepth 100000 in
theorem do_big (b : Nat) (m : Rd) (n c : Int) (s : List UInt8) (w : World) (sz : Nat) (h : RdAt w b m) (hm : m.Ok) (hsz : Hid (min (max n 0) 8 = (sz : Int))) : Calls Try.prog 45 #[.pointer (some ⟨b, 0, none⟩), rdV m, opV 3 n c s] w (DoSays b (m.take sz).1 w) := by
  have HR := Lib.hid (fun w => rtake_any m sz w hm)
  have HP := Lib.hid (fun w h => inbig_any b m n sz w h hm hsz)
  have hl8 : (m.take sz).2.length ≤ 8 := Nat.le_trans (take_len m sz) (by have := hsz.out; omega)
  have HS := Lib.hid (fun w => size_any n w)
  have hlt := h.lt
  unfold DoSays
  generalize m.take (sz : Int) = mt at *
  obtain ⟨m', l⟩ := mt
  have HN := Lib.hid (fun w => number_any l w hl8)
  rw [hsz.out] at HS
  have n1 : w.heap.size ≠ b := by omega
  have n2 : w.heap.size + 1 ≠ b := by omega
  have n3 : w.heap.size + 1 + 1 ≠ b := by omega
  go_enter Try.func45, Try.ntmps45
  go_upto_region 11 with (fail)
  have hM : InAt 58 (((w.alloc (.cells #[.string ⟨m.t.toArray⟩, .int .i64 m.nx, .int .i64 m.bs, .int .i64 m.cd, .int .i64 m.pl] 58)).alloc (.cells #[.int .i64 3, .int .i64 n, .int .i64 c, .string ⟨s.toArray⟩] 60)).alloc (.cells #[.string ⟨#[]⟩, .int .i64 0, .int .i64 0, .int .i64 0, .int .i64 0] 58)) w.heap.size m := (heap_alloc_old _ _ (by simp; omega)).trans (at_a1 _ _ _ _)
  have hO : (((w.alloc (.cells #[.string ⟨m.t.toArray⟩, .int .i64 m.nx, .int .i64 m.bs, .int .i64 m.cd, .int .i64 m.pl] 58)).alloc (.cells #[.int .i64 3, .int .i64 n, .int .i64 c, .string ⟨s.toArray⟩] 60)).alloc (.cells #[.string ⟨#[]⟩, .int .i64 0, .int .i64 0, .int .i64 0, .int .i64 0] 58)).heap[w.heap.size + 1]? = some (.cells #[.int .i64 3, .int .i64 n, .int .i64 c, .string ⟨s.toArray⟩] 60 (0, 0)) := (heap_alloc_old _ _ (by simp)).trans (at_a2 _ _ _ _)
  have hZ : InAt 58 (((w.alloc (.cells #[.string ⟨m.t.toArray⟩, .int .i64 m.nx, .int .i64 m.bs, .int .i64 m.cd, .int .i64 m.pl] 58)).alloc (.cells #[.int .i64 3, .int .i64 n, .int .i64 c, .string ⟨s.toArray⟩] 60)).alloc (.cells #[.string ⟨#[]⟩, .int .i64 0, .int .i64 0, .int .i64 0, .int .i64 0] 58)) (w.heap.size + 1 + 1) Rd.zero := at_a3 _ _ _ _ _
  have hR := ((h.alloc (.cells #[.string ⟨m.t.toArray⟩, .int .i64 m.nx, .int .i64 m.bs, .int .i64 m.cd, .int .i64 m.pl] 58)).alloc (.cells #[.int .i64 3, .int .i64 n, .int .i64 c, .string ⟨s.toArray⟩] 60)).alloc (.cells #[.string ⟨#[]⟩, .int .i64 0, .int .i64 0, .int .i64 0, .int .i64 0] 58)
  have hBW : Below w.heap.size w (((w.alloc (.cells #[.string ⟨m.t.toArray⟩, .int .i64 m.nx, .int .i64 m.bs, .int .i64 m.cd, .int .i64 m.pl] 58)).alloc (.cells #[.int .i64 3, .int .i64 n, .int .i64 c, .string ⟨s.toArray⟩] 60)).alloc (.cells #[.string ⟨#[]⟩, .int .i64 0, .int .i64 0, .int .i64 0, .int .i64 0] 58)) := (((Below.refl _ _).alloc (Nat.le_refl _) _).alloc (by simp) _).alloc (by simp; omega) _
  generalize (((w.alloc (.cells #[.string ⟨m.t.toArray⟩, .int .i64 m.nx, .int .i64 m.bs, .int .i64 m.cd, .int .i64 m.pl] 58)).alloc (.cells #[.int .i64 3, .int .i64 n, .int .i64 c, .string ⟨s.toArray⟩] 60)).alloc (.cells #[.string ⟨#[]⟩, .int .i64 0, .int .i64 0, .int .i64 0, .int .i64 0] 58)) = W at *
  have hW : w.heap.size + 1 + 1 < W.heap.size := hZ.lt
  have hz1 : w.heap.size + 1 < w.heap.size + 1 + 1 := by omega
  generalize w.heap.size + 1 + 1 = zb at *
  have n4 : w.heap.size ≠ zb := by omega
  have n5 : zb ≠ w.heap.size := by omega
  have n6 : w.heap.size + 1 ≠ zb := by omega
  have n7 : zb ≠ w.heap.size + 1 := by omega
  have n8 : w.heap.size + 1 ≠ W.heap.size := by omega
  have n9 : W.heap.size ≠ w.heap.size + 1 := by omega
  have n10 : w.heap.size ≠ W.heap.size := by omega
  have n11 : W.heap.size ≠ w.heap.size := by omega
  obtain ⟨⟨c0, c1, c2, c3, c4⟩, _, _, _, _, _⟩ := hM.all
  obtain ⟨⟨d0, d1, d2, d3, d4⟩, g0, g1, g2, g3, g4⟩ := hZ.all
  have o1 : W.cell? ⟨w.heap.size + 1, 1, none⟩ = some (.int .i64 n) := cell_at hO
  have HR1 := Lib.hid hR
  have HZ1 := Lib.hid hZ
  have HBW := Lib.hid hBW
  have HO := Lib.hid hO
  have hbW : b < W.heap.size := hR.lt
  clear hM hZ hR hO hBW
  go_cut [12, 13] from 68 to 75 (fun s12 s13 wx => ∃ xb, s12 = .pointer (some ⟨xb, 0, none⟩) ∧ s13 = .string ⟨l.toArray⟩ ∧ Hid (DoMid b zb m m' 3 n c s w wx xb))
  case first =>
    have := World.new_ne W ⟨w.heap.size, 0, none⟩ c0
    have := World.new_ne W ⟨w.heap.size, 1, none⟩ c1
    go_region_held3 (fun w' => w'.cell? ⟨w.heap.size, 0, none⟩ = some (.string ⟨m.t.toArray⟩) ∧ w'.cell? ⟨w.heap.size, 1, none⟩ = some (.int .i64 m.nx) ∧ w'.cell? ⟨w.heap.size, 2, none⟩ = some (.int .i64 m.bs) ∧ w'.cell? ⟨w.heap.size, 3, none⟩ = some (.int .i64 m.cd) ∧ w'.cell? ⟨w.heap.size, 4, none⟩ = some (.int .i64 m.pl) ∧ w'.cell? ⟨w.heap.size + 1, 1, none⟩ = some (.int .i64 n)) (go_keep)
      (first | (go_at_call 37; refine (HS.out _).mono ?_; rintro e w3 ⟨rfl, rfl⟩) | (go_at_call 64; refine (HR.out _).mono ?_; rintro e w4 ⟨rfl, hb4⟩; obtain ⟨hcc, hff⟩ := bcell hb4; have x0 := hcc w.heap.size 0 (by simp; omega); have x1 := hcc w.heap.size 1 (by simp; omega); have x2 := hcc w.heap.size 2 (by simp; omega); have x3 := hcc w.heap.size 3 (by simp; omega); have x4 := hcc w.heap.size 4 (by simp; omega); have x5 := hcc (w.heap.size + 1) 1 (by simp; omega); have HB4 := Lib.hid hb4; have hs4 : zb < w4.heap.size := (by have := hb4.size; simp at this; omega); clear hb4))
    all_goals go_wp2_with fail
    all_goals go_meet
    · exact ⟨_, rfl, rfl, Lib.hid (mid_last HR1.out HO.out HZ1.out HBW.out ⟨HB4.out.os, HB4.out.tape, HB4.out.output, HB4.out.size, HB4.out.block⟩)⟩
    · exact ⟨_, rfl, rfl, Lib.hid (mid_first HR1.out HO.out HZ1.out HBW.out hbW ⟨HB4.out.os, HB4.out.tape, HB4.out.output, HB4.out.size, HB4.out.block⟩)⟩
    · exact ⟨_, rfl, rfl, Lib.hid (mid_first HR1.out HO.out HZ1.out HBW.out hbW ⟨HB4.out.os, HB4.out.tape, HB4.out.output, HB4.out.size, HB4.out.block⟩)⟩
  case rest =>
    obtain ⟨xb, rfl, rfl, HM⟩ := hcut
    clear c0 c1 c2 c3 c4 d0 d1 d2 d3 d4 g0 g1 g2 g3 g4 o1 HR1 HZ1 HBW HO hW n8 n9 n10 n11 hbW
    obtain ⟨⟨c0, c1, c2, c3, c4⟩, _, _, _, _, _⟩ := HM.out.x.all
    obtain ⟨⟨d0, d1, d2, d3, d4⟩, g0, g1, g2, g3, g4⟩ := HM.out.z.all
    have o1 : wc.cell? ⟨w.heap.size + 1, 1, none⟩ = some (.int .i64 n) := cell_at HM.out.o
    have hzx := HM.out.lt
    have hxW : xb < wc.heap.size := HM.out.x.lt
    have n12 : xb ≠ b := by omega
    have n13 : xb ≠ zb := by omega
    have n14 : zb ≠ xb := by omega
    go_wp2
    go_region_held3 (fun w' => w'.cell? ⟨xb, 0, none⟩ = some (.string ⟨m'.t.toArray⟩) ∧ w'.cell? ⟨xb, 1, none⟩ = some (.int .i64 m'.nx) ∧ w'.cell? ⟨xb, 2, none⟩ = some (.int .i64 m'.bs) ∧ w'.cell? ⟨xb, 3, none⟩ = some (.int .i64 m'.cd) ∧ w'.cell? ⟨xb, 4, none⟩ = some (.int .i64 m'.pl) ∧ w'.cell? ⟨w.heap.size + 1, 1, none⟩ = some (.int .i64 n)) (go_keep)
      (first | (go_at_call 66; refine (HN.out _).mono ?_; rintro e w5 ⟨rfl, rfl⟩) | (go_at_call 39; refine (HP.out _ ?_).mono ?_; (exact HM.out.r); rintro e w3 ⟨rfl, hr3, ho3⟩; obtain ⟨hcc, hff⟩ := ocell ho3; have x0 := hcc xb 0 (by simp; omega) n12; have x1 := hcc xb 1 (by simp; omega) n12; have x2 := hcc xb 2 (by simp; omega) n12; have x3 := hcc xb 3 (by simp; omega) n12; have x4 := hcc xb 4 (by simp; omega) n12; have x5 := hcc (w.heap.size + 1) 1 (by simp; omega) n2; have y0 := hcc zb 0 (by simp; omega) n3; have y1 := hcc zb 1 (by simp; omega) n3; have y2 := hcc zb 2 (by simp; omega) n3; have y3 := hcc zb 3 (by simp; omega) n3; have y4 := hcc zb 4 (by simp; omega) n3; have z0 := hff zb 0 (by simp; omega) n3; have z1 := hff zb 1 (by simp; omega) n3; have z2 := hff zb 2 (by simp; omega) n3; have z3 := hff zb 3 (by simp; omega) n3; have z4 := hff zb 4 (by simp; omega) n3; clear hcc hff))
    go_wp2
    have ho4 : Only b wc w3 := ⟨ho3.os, ho3.tape, ho3.output, ho3.size, ho3.block⟩
    have HZ3 := HM.out.z.only ho4 n3
    have HR3 := Lib.hid hr3
    have HO3 := Lib.hid ((Only.of_below HM.out.b).trans ho4)
    exact end_cell_tmp rfl rfl rfl (store5 HZ3 rfl) Try.underlying58 rfl info_ref01In ⟨rfl, by repeat (first | with_reducible refine InAt.put ?_ (by omega) _ | with_reducible exact HR3.out), by repeat (first | with_reducible refine Only.put ?_ (by omega) _ | with_reducible exact HO3.out)⟩
set_option maxHeartbeats 2000000 in
set_option maxRecDepth 100000 in
theorem do_small (b : Nat) (m : Rd) (n c : Int) (s : List UInt8) (w : World) (sz : Nat) (h : RdAt w b m) (hm : m.Ok) (hsz : Hid (min (max n 0) 8 = (sz : Int))) : Calls Try.prog 45 #[.pointer (some ⟨b, 0, none⟩), rdV m, opV 4 n c s] w (DoSays b (m.take sz).1 w) := by
  have HR := Lib.hid (fun w => rtake_any m sz w hm)
  have HP := Lib.hid (fun w h => insmall_any b m n sz w h hm hsz)
  have hl8 : (m.take sz).2.length ≤ 8 := Nat.le_trans (take_len m sz) (by have := hsz.out; omega)
  have HS := Lib.hid (fun w => size_any n w)
  have hlt := h.lt
  unfold DoSays
  generalize m.take (sz : Int) = mt at *
  obtain ⟨m', l⟩ := mt
  have HN := Lib.hid (fun w => number_any l.reverse w (by rw [List.length_reverse]; exact hl8))
  have HK := Lib.hid (fun w => back_any l w (Nat.le_trans hl8 (by decide)))
  rw [hsz.out] at HS
  have n1 : w.heap.size ≠ b := by omega
  have n2 : w.heap.size + 1 ≠ b := by omega
  have n3 : w.heap.size + 1 + 1 ≠ b := by omega
  go_enter Try.func45, Try.ntmps45
  go_upto_region 14 with (fail)
  have hM : InAt 58 (((w.alloc (.cells #[.string ⟨m.t.toArray⟩, .int .i64 m.nx, .int .i64 m.bs, .int .i64 m.cd, .int .i64 m.pl] 58)).alloc (.cells #[.int .i64 4, .int .i64 n, .int .i64 c, .string ⟨s.toArray⟩] 60)).alloc (.cells #[.string ⟨#[]⟩, .int .i64 0, .int .i64 0, .int .i64 0, .int .i64 0] 58)) w.heap.size m := (heap_alloc_old _ _ (by simp; omega)).trans (at_a1 _ _ _ _)
  have hO : (((w.alloc (.cells #[.string ⟨m.t.toArray⟩, .int .i64 m.nx, .int .i64 m.bs, .int .i64 m.cd, .int .i64 m.pl] 58)).alloc (.cells #[.int .i64 4, .int .i64 n, .int .i64 c, .string ⟨s.toArray⟩] 60)).alloc (.cells #[.string ⟨#[]⟩, .int .i64 0, .int .i64 0, .int .i64 0, .int .i64 0] 58)).heap[w.heap.size + 1]? = some (.cells #[.int .i64 4, .int .i64 n, .int .i64 c, .string ⟨s.toArray⟩] 60 (0, 0)) := (heap_alloc_old _ _ (by simp)).trans (at_a2 _ _ _ _)
  have hZ : InAt 58 (((w.alloc (.cells #[.string ⟨m.t.toArray⟩, .int .i64 m.nx, .int .i64 m.bs, .int .i64 m.cd, .int .i64 m.pl] 58)).alloc (.cells #[.int .i64 4, .int .i64 n, .int .i64 c, .string ⟨s.toArray⟩] 60)).alloc (.cells #[.string ⟨#[]⟩, .int .i64 0, .int .i64 0, .int .i64 0, .int .i64 0] 58)) (w.heap.size + 1 + 1) Rd.zero := at_a3 _ _ _ _ _
  have hR := ((h.alloc (.cells #[.string ⟨m.t.toArray⟩, .int .i64 m.nx, .int .i64 m.bs, .int .i64 m.cd, .int .i64 m.pl] 58)).alloc (.cells #[.int .i64 4, .int .i64 n, .int .i64 c, .string ⟨s.toArray⟩] 60)).alloc (.cells #[.string ⟨#[]⟩, .int .i64 0, .int .i64 0, .int .i64 0, .int .i64 0] 58)
  have hBW : Below w.heap.size w (((w.alloc (.cells #[.string ⟨m.t.toArray⟩, .int .i64 m.nx, .int .i64 m.bs, .int .i64 m.cd, .int .i64 m.pl] 58)).alloc (.cells #[.int .i64 4, .int .i64 n, .int .i64 c, .string ⟨s.toArray⟩] 60)).alloc (.cells #[.string ⟨#[]⟩, .int .i64 0, .int .i64 0, .int .i64 0, .int .i64 0] 58)) := (((Below.refl _ _).alloc (Nat.le_refl _) _).alloc (by simp) _).alloc (by simp; omega) _
  generalize (((w.alloc (.cells #[.string ⟨m.t.toArray⟩, .int .i64 m.nx, .int .i64 m.bs, .int .i64 m.cd, .int .i64 m.pl] 58)).alloc (.cells #[.int .i64 4, .int .i64 n, .int .i64 c, .string ⟨s.toArray⟩] 60)).alloc (.cells #[.string ⟨#[]⟩, .int .i64 0, .int .i64 0, .int .i64 0, .int .i64 0] 58)) = W at *
  have hW : w.heap.size + 1 + 1 < W.heap.size := hZ.lt
  have hz1 : w.heap.size + 1 < w.heap.size + 1 + 1 := by omega
  generalize w.heap.size + 1 + 1 = zb at *
  have n4 : w.heap.size ≠ zb := by omega
  have n5 : zb ≠ w.heap.size := by omega
  have n6 : w.heap.size + 1 ≠ zb := by omega
  have n7 : zb ≠ w.heap.size + 1 := by omega
  have n8 : w.heap.size + 1 ≠ W.heap.size := by omega
  have n9 : W.heap.size ≠ w.heap.size + 1 := by omega
  have n10 : w.heap.size ≠ W.heap.size := by omega
  have n11 : W.heap.size ≠ w.heap.size := by omega
  obtain ⟨⟨c0, c1, c2, c3, c4⟩, _, _, _, _, _⟩ := hM.all
  obtain ⟨⟨d0, d1, d2, d3, d4⟩, g0, g1, g2, g3, g4⟩ := hZ.all
  have o1 : W.cell? ⟨w.heap.size + 1, 1, none⟩ = some (.int .i64 n) := cell_at hO
  have HR1 := Lib.hid hR
  have HZ1 := Lib.hid hZ
  have HBW := Lib.hid hBW
  have HO := Lib.hid hO
  have hbW : b < W.heap.size := hR.lt
  clear hM hZ hR hO hBW
  go_cut [14, 15] from 86 to 93 (fun s12 s13 wx => ∃ xb, s12 = .pointer (some ⟨xb, 0, none⟩) ∧ s13 = .string ⟨l.toArray⟩ ∧ Hid (DoMid b zb m m' 4 n c s w wx xb))
  case first =>
    have := World.new_ne W ⟨w.heap.size, 0, none⟩ c0
    have := World.new_ne W ⟨w.heap.size, 1, none⟩ c1
    go_region_held3 (fun w' => w'.cell? ⟨w.heap.size, 0, none⟩ = some (.string ⟨m.t.toArray⟩) ∧ w'.cell? ⟨w.heap.size, 1, none⟩ = some (.int .i64 m.nx) ∧ w'.cell? ⟨w.heap.size, 2, none⟩ = some (.int .i64 m.bs) ∧ w'.cell? ⟨w.heap.size, 3, none⟩ = some (.int .i64 m.cd) ∧ w'.cell? ⟨w.heap.size, 4, none⟩ = some (.int .i64 m.pl) ∧ w'.cell? ⟨w.heap.size + 1, 1, none⟩ = some (.int .i64 n)) (go_keep)
      (first | (go_at_call 37; refine (HS.out _).mono ?_; rintro e w3 ⟨rfl, rfl⟩) | (go_at_call 64; refine (HR.out _).mono ?_; rintro e w4 ⟨rfl, hb4⟩; obtain ⟨hcc, hff⟩ := bcell hb4; have x0 := hcc w.heap.size 0 (by simp; omega); have x1 := hcc w.heap.size 1 (by simp; omega); have x2 := hcc w.heap.size 2 (by simp; omega); have x3 := hcc w.heap.size 3 (by simp; omega); have x4 := hcc w.heap.size 4 (by simp; omega); have x5 := hcc (w.heap.size + 1) 1 (by simp; omega); have HB4 := Lib.hid hb4; have hs4 : zb < w4.heap.size := (by have := hb4.size; simp at this; omega); clear hb4))
    all_goals go_wp2_with fail
    all_goals go_meet
    · exact ⟨_, rfl, rfl, Lib.hid (mid_last HR1.out HO.out HZ1.out HBW.out ⟨HB4.out.os, HB4.out.tape, HB4.out.output, HB4.out.size, HB4.out.block⟩)⟩
    · exact ⟨_, rfl, rfl, Lib.hid (mid_first HR1.out HO.out HZ1.out HBW.out hbW ⟨HB4.out.os, HB4.out.tape, HB4.out.output, HB4.out.size, HB4.out.block⟩)⟩
    · exact ⟨_, rfl, rfl, Lib.hid (mid_first HR1.out HO.out HZ1.out HBW.out hbW ⟨HB4.out.os, HB4.out.tape, HB4.out.output, HB4.out.size, HB4.out.block⟩)⟩
  case rest =>
    obtain ⟨xb, rfl, rfl, HM⟩ := hcut
    clear c0 c1 c2 c3 c4 d0 d1 d2 d3 d4 g0 g1 g2 g3 g4 o1 HR1 HZ1 HBW HO hW n8 n9 n10 n11 hbW
    obtain ⟨⟨c0, c1, c2, c3, c4⟩, _, _, _, _, _⟩ := HM.out.x.all
    obtain ⟨⟨d0, d1, d2, d3, d4⟩, g0, g1, g2, g3, g4⟩ := HM.out.z.all
    have o1 : wc.cell? ⟨w.heap.size + 1, 1, none⟩ = some (.int .i64 n) := cell_at HM.out.o
    have hzx := HM.out.lt
    have hxW : xb < wc.heap.size := HM.out.x.lt
    have n12 : xb ≠ b := by omega
    have n13 : xb ≠ zb := by omega
    have n14 : zb ≠ xb := by omega
    go_wp2
    go_region_held3 (fun w' => w'.cell? ⟨xb, 0, none⟩ = some (.string ⟨m'.t.toArray⟩) ∧ w'.cell? ⟨xb, 1, none⟩ = some (.int .i64 m'.nx) ∧ w'.cell? ⟨xb, 2, none⟩ = some (.int .i64 m'.bs) ∧ w'.cell? ⟨xb, 3, none⟩ = some (.int .i64 m'.cd) ∧ w'.cell? ⟨xb, 4, none⟩ = some (.int .i64 m'.pl) ∧ w'.cell? ⟨w.heap.size + 1, 1, none⟩ = some (.int .i64 n)) (go_keep)
      (first | (go_at_call 36; refine (HK.out _).mono ?_; rintro e w6 ⟨rfl, rfl⟩) | (go_at_call 66; refine (HN.out _).mono ?_; rintro e w5 ⟨rfl, rfl⟩) | (go_at_call 40; refine (HP.out _ ?_).mono ?_; (exact HM.out.r); rintro e w3 ⟨rfl, hr3, ho3⟩; obtain ⟨hcc, hff⟩ := ocell ho3; have x0 := hcc xb 0 (by simp; omega) n12; have x1 := hcc xb 1 (by simp; omega) n12; have x2 := hcc xb 2 (by simp; omega) n12; have x3 := hcc xb 3 (by simp; omega) n12; have x4 := hcc xb 4 (by simp; omega) n12; have x5 := hcc (w.heap.size + 1) 1 (by simp; omega) n2; have y0 := hcc zb 0 (by simp; omega) n3; have y1 := hcc zb 1 (by simp; omega) n3; have y2 := hcc zb 2 (by simp; omega) n3; have y3 := hcc zb 3 (by simp; omega) n3; have y4 := hcc zb 4 (by simp; omega) n3; have z0 := hff zb 0 (by simp; omega) n3; have z1 := hff zb 1 (by simp; omega) n3; have z2 := hff zb 2 (by simp; omega) n3; have z3 := hff zb 3 (by simp; omega) n3; have z4 := hff zb 4 (by simp; omega) n3; clear hcc hff))
    go_wp2
    have ho4 : Only b wc w3 := ⟨ho3.os, ho3.tape, ho3.output, ho3.size, ho3.block⟩
    have HZ3 := HM.out.z.only ho4 n3
    have HR3 := Lib.hid hr3
    have HO3 := Lib.hid ((Only.of_below HM.out.b).trans ho4)
    exact end_cell_tmp rfl rfl rfl (store5 HZ3 rfl) Try.underlying58 rfl info_ref01In ⟨rfl, by repeat (first | with_reducible refine InAt.put ?_ (by omega) _ | with_reducible exact HR3.out), by repeat (first | with_reducible refine Only.put ?_ (by omega) _ | with_reducible exact HO3.out)⟩
end Go.Proofs.Ytfbdgahbhlapmaa
