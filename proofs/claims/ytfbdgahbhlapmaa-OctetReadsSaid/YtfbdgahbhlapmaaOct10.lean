/- The walk of the law's do: Rest, and all kinds together. -/
import Derived.Test.YtfbdgahbhlapmaaOct9
namespace Go.Proofs.Ytfbdgahbhlapmaa
open Go.RowKit

set_option maxHeartbeats 2000000 in
set_option maxRecDepth 100000 in
theorem do_rest (b : Nat) (m : Rd) (n c : Int) (s : List UInt8) (w : World) (h : RdAt w b m) (hm : m.Ok) : Calls Try.prog 45 #[.pointer (some ⟨b, 0, none⟩), rdV m, opV 1 n c s] w (DoSays b m.rest.1 w) := by
  have HR := Lib.hid (fun w => rtake_any m m.left w hm)
  have HP := Lib.hid (fun w h => rest_any b m w h hm)
  have HS := Lib.hid (fun w => rleft_any m w hm)
  have hlt := h.lt
  unfold DoSays
  change Hid (∀ w h, Calls Try.prog 50 #[.pointer (some ⟨b, 0, none⟩)] w fun e w' => e = .returned (.string ⟨(m.take m.left).2.toArray⟩) ∧ RdAt w' b (m.take m.left).1 ∧ Only b w w') at HP
  rw [show m.rest = m.take m.left from rfl]
  generalize m.left = lf at *
  generalize m.take lf = mt at *
  obtain ⟨m', l⟩ := mt
  have n1 : w.heap.size ≠ b := by omega
  have n2 : w.heap.size + 1 ≠ b := by omega
  have n3 : w.heap.size + 1 + 1 ≠ b := by omega
  go_enter Try.func45, Try.ntmps45
  go_upto_region 6 with (fail)
  have hM : InAt 58 (((w.alloc (.cells #[.string ⟨m.t.toArray⟩, .int .i64 m.nx, .int .i64 m.bs, .int .i64 m.cd, .int .i64 m.pl] 58)).alloc (.cells #[.int .i64 1, .int .i64 n, .int .i64 c, .string ⟨s.toArray⟩] 60)).alloc (.cells #[.string ⟨#[]⟩, .int .i64 0, .int .i64 0, .int .i64 0, .int .i64 0] 58)) w.heap.size m := (heap_alloc_old _ _ (by simp; omega)).trans (at_a1 _ _ _ _)
  have hO : (((w.alloc (.cells #[.string ⟨m.t.toArray⟩, .int .i64 m.nx, .int .i64 m.bs, .int .i64 m.cd, .int .i64 m.pl] 58)).alloc (.cells #[.int .i64 1, .int .i64 n, .int .i64 c, .string ⟨s.toArray⟩] 60)).alloc (.cells #[.string ⟨#[]⟩, .int .i64 0, .int .i64 0, .int .i64 0, .int .i64 0] 58)).heap[w.heap.size + 1]? = some (.cells #[.int .i64 1, .int .i64 n, .int .i64 c, .string ⟨s.toArray⟩] 60 (0, 0)) := (heap_alloc_old _ _ (by simp)).trans (at_a2 _ _ _ _)
  have hZ : InAt 58 (((w.alloc (.cells #[.string ⟨m.t.toArray⟩, .int .i64 m.nx, .int .i64 m.bs, .int .i64 m.cd, .int .i64 m.pl] 58)).alloc (.cells #[.int .i64 1, .int .i64 n, .int .i64 c, .string ⟨s.toArray⟩] 60)).alloc (.cells #[.string ⟨#[]⟩, .int .i64 0, .int .i64 0, .int .i64 0, .int .i64 0] 58)) (w.heap.size + 1 + 1) Rd.zero := at_a3 _ _ _ _ _
  have hR := ((h.alloc (.cells #[.string ⟨m.t.toArray⟩, .int .i64 m.nx, .int .i64 m.bs, .int .i64 m.cd, .int .i64 m.pl] 58)).alloc (.cells #[.int .i64 1, .int .i64 n, .int .i64 c, .string ⟨s.toArray⟩] 60)).alloc (.cells #[.string ⟨#[]⟩, .int .i64 0, .int .i64 0, .int .i64 0, .int .i64 0] 58)
  have hBW : Below w.heap.size w (((w.alloc (.cells #[.string ⟨m.t.toArray⟩, .int .i64 m.nx, .int .i64 m.bs, .int .i64 m.cd, .int .i64 m.pl] 58)).alloc (.cells #[.int .i64 1, .int .i64 n, .int .i64 c, .string ⟨s.toArray⟩] 60)).alloc (.cells #[.string ⟨#[]⟩, .int .i64 0, .int .i64 0, .int .i64 0, .int .i64 0] 58)) := (((Below.refl _ _).alloc (Nat.le_refl _) _).alloc (by simp) _).alloc (by simp; omega) _
  generalize (((w.alloc (.cells #[.string ⟨m.t.toArray⟩, .int .i64 m.nx, .int .i64 m.bs, .int .i64 m.cd, .int .i64 m.pl] 58)).alloc (.cells #[.int .i64 1, .int .i64 n, .int .i64 c, .string ⟨s.toArray⟩] 60)).alloc (.cells #[.string ⟨#[]⟩, .int .i64 0, .int .i64 0, .int .i64 0, .int .i64 0] 58)) = W at *
  have hW : w.heap.size + 1 + 1 < W.heap.size := hZ.lt
  have hz1 : w.heap.size + 1 < w.heap.size + 1 + 1 := by omega
  generalize w.heap.size + 1 + 1 = zb at *
  have n4 : w.heap.size ≠ zb := by omega
  have n5 : zb ≠ w.heap.size := by omega
  have n6 : w.heap.size + 1 ≠ zb := by omega
  have n7 : zb ≠ w.heap.size + 1 := by omega
  have n8 : w.heap.size + 1 ≠ W.heap.size := by omega
  have n9 : W.heap.size ≠ w.heap.size + 1 := by omega
  have n10 : w.heap.size ≠ W.heap.size := by omega
  have n11 : W.heap.size ≠ w.heap.size := by omega
  obtain ⟨⟨c0, c1, c2, c3, c4⟩, _, _, _, _, _⟩ := hM.all
  obtain ⟨⟨d0, d1, d2, d3, d4⟩, g0, g1, g2, g3, g4⟩ := hZ.all
  have o1 : W.cell? ⟨w.heap.size + 1, 1, none⟩ = some (.int .i64 n) := cell_at hO
  have HR1 := Lib.hid hR
  have HZ1 := Lib.hid hZ
  have HBW := Lib.hid hBW
  have HO := Lib.hid hO
  have hbW : b < W.heap.size := hR.lt
  clear hM hZ hR hO hBW
  go_cut [10, 11] from 42 to 48 (fun s12 s13 wx => ∃ xb, s12 = .pointer (some ⟨xb, 0, none⟩) ∧ s13 = .string ⟨l.toArray⟩ ∧ Hid (DoMid b zb m m' 1 n c s w wx xb))
  case first =>
    have := World.new_ne W ⟨w.heap.size, 0, none⟩ c0
    have := World.new_ne W ⟨w.heap.size, 1, none⟩ c1
    go_region_held3 (fun w' => w'.cell? ⟨w.heap.size, 0, none⟩ = some (.string ⟨m.t.toArray⟩) ∧ w'.cell? ⟨w.heap.size, 1, none⟩ = some (.int .i64 m.nx) ∧ w'.cell? ⟨w.heap.size, 2, none⟩ = some (.int .i64 m.bs) ∧ w'.cell? ⟨w.heap.size, 3, none⟩ = some (.int .i64 m.cd) ∧ w'.cell? ⟨w.heap.size, 4, none⟩ = some (.int .i64 m.pl) ∧ w'.cell? ⟨w.heap.size + 1, 1, none⟩ = some (.int .i64 n)) (go_keep)
      (first | (go_at_call 46; refine (HS.out _).mono ?_; rintro e w3 ⟨rfl, hb3⟩; obtain ⟨hcc3, hff3⟩ := bcell hb3; have x0 := hcc3 w.heap.size 0 (by simp; omega); have x1 := hcc3 w.heap.size 1 (by simp; omega); have x2 := hcc3 w.heap.size 2 (by simp; omega); have x3 := hcc3 w.heap.size 3 (by simp; omega); have x4 := hcc3 w.heap.size 4 (by simp; omega); have x5 := hcc3 (w.heap.size + 1) 1 (by simp; omega); have HB3 := Lib.hid hb3; have hs3 : zb < w3.heap.size := (by have := hb3.size; simp at this; omega); clear hb3; have hs5 := HB3.out.size; (try simp at hs5); (try have hs6 : W.heap.size < w3.heap.size := (by omega)); have q1 : w.heap.size ≠ w3.heap.size := (by omega); have q2 : w3.heap.size ≠ w.heap.size := (by omega); have q3 : w.heap.size + 1 ≠ w3.heap.size := (by omega); have q4 : w3.heap.size ≠ w.heap.size + 1 := (by omega)) | (go_at_call 64; refine (HR.out _).mono ?_; rintro e w4 ⟨rfl, hb4⟩; obtain ⟨hcc, hff⟩ := bcell hb4; have x0 := hcc w.heap.size 0 (by first | omega | (simp; omega)); have x1 := hcc w.heap.size 1 (by first | omega | (simp; omega)); have x2 := hcc w.heap.size 2 (by first | omega | (simp; omega)); have x3 := hcc w.heap.size 3 (by first | omega | (simp; omega)); have x4 := hcc w.heap.size 4 (by first | omega | (simp; omega)); have x5 := hcc (w.heap.size + 1) 1 (by first | omega | (simp; omega)); have HB4 := Lib.hid hb4; have hs4 : zb < w4.heap.size := (by have := hb4.size; first | omega | (simp at this; omega)); clear hb4))
    all_goals go_wp2_with fail
    all_goals go_meet
    · have k3 : Below W.heap.size W w3 := ⟨HB3.out.os, HB3.out.tape, HB3.out.output, HB3.out.size, HB3.out.block⟩
      exact ⟨_, rfl, rfl, Lib.hid (mid_last HR1.out HO.out HZ1.out HBW.out (nextB k3 ⟨HB4.out.os, HB4.out.tape, HB4.out.output, HB4.out.size, HB4.out.block⟩))⟩
    · have k3 : Below W.heap.size W w3 := ⟨HB3.out.os, HB3.out.tape, HB3.out.output, HB3.out.size, HB3.out.block⟩
      exact ⟨_, rfl, rfl, Lib.hid (mid_first (HR1.out.below k3) (block_below HO.out k3) (HZ1.out.below k3) (nextB HBW.out k3) (Nat.lt_of_lt_of_le hbW k3.size) ⟨HB4.out.os, HB4.out.tape, HB4.out.output, HB4.out.size, HB4.out.block⟩)⟩
    · have k3 : Below (W.alloc (.cells #[.string ⟨#[]⟩, .int .i64 0, .int .i64 0, .int .i64 0, .int .i64 0] 58)).heap.size (W.alloc (.cells #[.string ⟨#[]⟩, .int .i64 0, .int .i64 0, .int .i64 0, .int .i64 0] 58)) w3 := ⟨HB3.out.os, HB3.out.tape, HB3.out.output, HB3.out.size, HB3.out.block⟩
      exact ⟨_, rfl, rfl, Lib.hid (mid_first HR1.out HO.out HZ1.out HBW.out hbW (nextB k3 ⟨HB4.out.os, HB4.out.tape, HB4.out.output, HB4.out.size, HB4.out.block⟩))⟩
  case rest =>
    obtain ⟨xb, rfl, rfl, HM⟩ := hcut
    clear c0 c1 c2 c3 c4 d0 d1 d2 d3 d4 g0 g1 g2 g3 g4 o1 HR1 HZ1 HBW HO hW n8 n9 n10 n11 hbW
    obtain ⟨⟨c0, c1, c2, c3, c4⟩, _, _, _, _, _⟩ := HM.out.x.all
    obtain ⟨⟨d0, d1, d2, d3, d4⟩, g0, g1, g2, g3, g4⟩ := HM.out.z.all
    have o1 : wc.cell? ⟨w.heap.size + 1, 1, none⟩ = some (.int .i64 n) := cell_at HM.out.o
    have hzx := HM.out.lt
    have hxW : xb < wc.heap.size := HM.out.x.lt
    have n12 : xb ≠ b := by omega
    have n13 : xb ≠ zb := by omega
    have n14 : zb ≠ xb := by omega
    go_wp2
    go_region_held3 (fun w' => w'.cell? ⟨xb, 0, none⟩ = some (.string ⟨m'.t.toArray⟩) ∧ w'.cell? ⟨xb, 1, none⟩ = some (.int .i64 m'.nx) ∧ w'.cell? ⟨xb, 2, none⟩ = some (.int .i64 m'.bs) ∧ w'.cell? ⟨xb, 3, none⟩ = some (.int .i64 m'.cd) ∧ w'.cell? ⟨xb, 4, none⟩ = some (.int .i64 m'.pl) ∧ w'.cell? ⟨w.heap.size + 1, 1, none⟩ = some (.int .i64 n)) (go_keep)
      (first | (go_at_call 50; refine (HP.out _ ?_).mono ?_; (exact HM.out.r); rintro e w3 ⟨rfl, hr3, ho3⟩; obtain ⟨hcc, hff⟩ := ocell ho3; have x0 := hcc xb 0 (by simp; omega) n12; have x1 := hcc xb 1 (by simp; omega) n12; have x2 := hcc xb 2 (by simp; omega) n12; have x3 := hcc xb 3 (by simp; omega) n12; have x4 := hcc xb 4 (by simp; omega) n12; have x5 := hcc (w.heap.size + 1) 1 (by simp; omega) n2; have y0 := hcc zb 0 (by simp; omega) n3; have y1 := hcc zb 1 (by simp; omega) n3; have y2 := hcc zb 2 (by simp; omega) n3; have y3 := hcc zb 3 (by simp; omega) n3; have y4 := hcc zb 4 (by simp; omega) n3; have z0 := hff zb 0 (by simp; omega) n3; have z1 := hff zb 1 (by simp; omega) n3; have z2 := hff zb 2 (by simp; omega) n3; have z3 := hff zb 3 (by simp; omega) n3; have z4 := hff zb 4 (by simp; omega) n3; clear hcc hff))
    go_wp2
    have ho4 : Only b wc w3 := ⟨ho3.os, ho3.tape, ho3.output, ho3.size, ho3.block⟩
    have HZ3 := HM.out.z.only ho4 n3
    have HR3 := Lib.hid hr3
    have HO3 := Lib.hid ((Only.of_below HM.out.b).trans ho4)
    exact end_cell_tmp rfl rfl rfl (store5 HZ3 rfl) Try.underlying58 rfl info_ref01In ⟨rfl, by repeat (first | with_reducible refine InAt.put ?_ (by omega) _ | with_reducible exact HR3.out), by repeat (first | with_reducible refine Only.put ?_ (by omega) _ | with_reducible exact HO3.out)⟩

/-- a reader behind one operation of the statement OctetReads -/
def Rd.step (m : Rd) (k n c : Int) (s : List UInt8) : Rd :=
  if k = 0 then (m.take n).1 else if k = 1 then m.rest.1 else if k = 2 then m else if k = 3 then (m.take (min (max n 0) 8)).1 else if k = 4 then (m.take (min (max n 0) 8)).1
  else if k = 5 then m.safe.1 else if k = 6 then (m.want s).1 else if k = 7 then (m.until s).1 else if k = 8 then m.fail c n else m

theorem do_any (b : Nat) (m : Rd) (k n c : Int) (s : List UInt8) (w : World) (h : RdAt w b m) (hm : m.Ok) (hs : s.length ≤ 1000000000) :
    Calls Try.prog 45 #[.pointer (some ⟨b, 0, none⟩), rdV m, opV k n c s] w (DoSays b (m.step k n c s) w) := by
  unfold Rd.step
  by_cases h0 : k = 0
  · rw [if_pos h0, h0]; exact do_take b m n c s w h hm
  rw [if_neg h0]
  by_cases h1 : k = 1
  · rw [if_pos h1, h1]; exact do_rest b m n c s w h hm
  rw [if_neg h1]
  by_cases h2 : k = 2
  · rw [if_pos h2, h2]; exact do_peek b m n c s w h hm
  rw [if_neg h2]
  obtain ⟨sz, hsz⟩ := Int.eq_ofNat_of_zero_le (show 0 ≤ min (max n 0) 8 by omega)
  rw [hsz]
  by_cases h3 : k = 3
  · rw [if_pos h3, h3]; exact do_big b m n c s w sz h hm (Lib.hid hsz)
  rw [if_neg h3]
  by_cases h4 : k = 4
  · rw [if_pos h4, h4]; exact do_small b m n c s w sz h hm (Lib.hid hsz)
  rw [if_neg h4]
  by_cases h5 : k = 5
  · rw [if_pos h5, h5]; exact do_safe b m n c s w h hm
  rw [if_neg h5]
  by_cases h6 : k = 6
  · rw [if_pos h6, h6]; exact do_want b m n c s w h hm hs
  rw [if_neg h6]
  by_cases h7 : k = 7
  · rw [if_pos h7, h7]; exact do_until b m n c s w h hm hs
  rw [if_neg h7]
  by_cases h8 : k = 8
  · rw [if_pos h8, h8]; exact do_fail b m n c s w h
  rw [if_neg h8]
  exact do_none b m k n c s w h (by omega)

/-! ### Each operation keeps the sizes -/
theorem rest_ok {m : Rd} (hm : m.Ok) : m.rest.1.Ok := take_ok _ hm
theorem safe_ok {m : Rd} (hm : m.Ok) : m.safe.1.Ok := by
  unfold Rd.safe
  split
  · exact (take_ok 4 hm).fail _ _
  · exact take_ok 4 hm
theorem want_ok {m : Rd} (s : List UInt8) (hm : m.Ok) : (m.want s).1.Ok := by
  unfold Rd.want
  split
  · split
    · exact hm.fail _ _
    · split
      · exact hm.fail _ _
      · rename_i h
        obtain ⟨h0, h1, h2, h3⟩ := hm
        refine ⟨?_, h1, h2, h3⟩
        rw [List.length_drop] at h
        show m.nx + s.length ≤ m.t.length
        omega
  · exact hm
theorem findEnd_le : ∀ (t e : List UInt8) (st f p q : Nat), findEnd t e st f p = some q → p ≤ q ∧ q + e.length ≤ t.length
  | _, _, _, 0, _, _, h => by simp [findEnd] at h
  | t, e, st, f + 1, p, q, h => by
    simp only [findEnd] at h
    split at h
    · split at h
      · have := Option.some.inj h; omega
      · have := findEnd_le t e st f _ _ h; omega
    · simp at h
theorem until_ok {m : Rd} (s : List UInt8) (hm : m.Ok) : (m.until s).1.Ok := by
  unfold Rd.until
  split
  · split
    · rename_i p h
      obtain ⟨h0, h1, h2, h3⟩ := hm
      exact ⟨(findEnd_le _ _ _ _ _ _ h).2, h1, h2, h3⟩
    · exact hm.fail _ _
  · exact hm
theorem step_ok {m : Rd} (k n c : Int) (s : List UInt8) (hm : m.Ok) : (m.step k n c s).Ok := by
  unfold Rd.step
  split; · exact take_ok _ hm
  split; · exact rest_ok hm
  split; · exact hm
  split; · exact take_ok _ hm
  split; · exact take_ok _ hm
  split; · exact safe_ok hm
  split; · exact want_ok s hm
  split; · exact until_ok s hm
  split; · exact hm.fail _ _
  exact hm
end Go.Proofs.Ytfbdgahbhlapmaa
