/- The walk of the law's do: the program's reader and the document's, side by side. -/
import Derived.Test.YtfbdgahbhlapmaaOct7
import Derived.Deep.RegionHeld3
namespace Go.Proofs.Ytfbdgahbhlapmaa
open Go.RowKit

/-- cells and marks of other blocks stay -/
theorem ocell {b : Nat} {W w1 : World} (hb : Only b W w1) : (∀ c o, c < W.heap.size → c ≠ b → w1.cell? ⟨c, o, none⟩ = W.cell? ⟨c, o, none⟩) ∧ (∀ c o, c < W.heap.size → c ≠ b → w1.frozen? ⟨c, o, none⟩ = W.frozen? ⟨c, o, none⟩) :=
  ⟨fun c o h hne => World.cell?_of_block (hb.block c h (by intro e; exact hne (Option.some.inj e))), fun c o h hne => World.frozen?_of_block (hb.block c h (by intro e; exact hne (Option.some.inj e)))⟩

theorem at_a3 (w : World) (C : Array Value) (T : TypeId) (o p : Obj) : (((w.alloc o).alloc p).alloc (.cells C T)).heap[w.heap.size + 2]? = some (.cells C T (0, 0)) := by
  have h := heap_alloc_new ((w.alloc o).alloc p) (.cells C T)
  simpa using h
theorem Only.put {b c j : Nat} {w w' : World} (h : Only b w w') (hc : w.heap.size ≤ c) (v : Value) : Only b w (w'.setCell ⟨c, j, none⟩ v) :=
  ⟨h.os, h.tape, h.output, by have := h.size; simpa [World.setCell] using this, fun k hk hne => (Below.heap_setCell w' _ v k (by intro e; have : k = c := e; omega)).trans (h.block k hk hne)⟩
theorem InAt.put {T : TypeId} {w : World} {b c j : Nat} {m : Rd} (h : InAt T w b m) (hne : b ≠ c) (v : Value) : InAt T (w.setCell ⟨c, j, none⟩ v) b m := (heap_set_other v hne).trans h
abbrev opV (k n c : Int) (s : List UInt8) : Value := .agg #[.int .i64 k, .int .i64 n, .int .i64 c, .string ⟨s.toArray⟩]
def DoSays (b : Nat) (m' : Rd) (w : World) (e : Ending) (w' : World) : Prop := e = .returned (.tuple #[rdV m', .bool true]) ∧ RdAt w' b m' ∧ Only b w w'

set_option maxHeartbeats 2000000 in
set_option maxRecDepth 100000 in
theorem do_take (b : Nat) (m : Rd) (n c : Int) (s : List UInt8) (w : World) (h : RdAt w b m) (hm : m.Ok) : Calls Try.prog 45 #[.pointer (some ⟨b, 0, none⟩), rdV m, opV 0 n c s] w (DoSays b (m.take n).1 w) := by
  have HR := Lib.hid (fun w => rtake_any m n w hm)
  have HP := Lib.hid (fun w h => take_any b m n w h hm)
  have hlt := h.lt
  unfold DoSays
  generalize m.take n = mt at *
  obtain ⟨m', l⟩ := mt
  go_enter Try.func45, Try.ntmps45
  go_wp2_with (go_at_call 64; refine (HR.out _).mono ?_; rintro e w1 ⟨rfl, hb1⟩; have HB1 := Lib.hid hb1)
  have hB := HB1.out
  have HZ : Hid (InAt 58 w1 (w.heap.size + 1 + 1) Rd.zero) := Lib.hid (block_below (at_a3 _ _ _ _ _) hB)
  have HO : Hid (w1.heap[w.heap.size + 1]? = some (.cells #[.int .i64 0, .int .i64 n, .int .i64 c, .string ⟨s.toArray⟩] 60 (0, 0))) := Lib.hid (block_below ((heap_alloc_old _ _ (by simp)).trans (at_a2 _ _ _ _)) hB)
  have HR1 : Hid (RdAt w1 b m) := Lib.hid (((((h.alloc _).alloc _).alloc _)).below hB)
  have HBW : Hid (Below w.heap.size w w1) := Lib.hid (below_a3 hB)
  clear hB hb1 HB1
  have hX : InAt 58 (w1.alloc (.cells #[.string ⟨m'.t.toArray⟩, .int .i64 m'.nx, .int .i64 m'.bs, .int .i64 m'.cd, .int .i64 m'.pl] 58)) w1.heap.size m' := at_a0 _ _ _
  have hZ := HZ.out.alloc (.cells #[.string ⟨m'.t.toArray⟩, .int .i64 m'.nx, .int .i64 m'.bs, .int .i64 m'.cd, .int .i64 m'.pl] 58)
  have hR := HR1.out.alloc (.cells #[.string ⟨m'.t.toArray⟩, .int .i64 m'.nx, .int .i64 m'.bs, .int .i64 m'.cd, .int .i64 m'.pl] 58)
  have hO : (w1.alloc (.cells #[.string ⟨m'.t.toArray⟩, .int .i64 m'.nx, .int .i64 m'.bs, .int .i64 m'.cd, .int .i64 m'.pl] 58)).heap[w.heap.size + 1]? = _ := (heap_alloc_old _ _ (Array.getElem?_eq_some_iff.1 HO.out).1).trans HO.out
  have hBW := HBW.out.alloc HBW.out.size (.cells #[.string ⟨m'.t.toArray⟩, .int .i64 m'.nx, .int .i64 m'.bs, .int .i64 m'.cd, .int .i64 m'.pl] 58)
  have hxb : w.heap.size + 1 + 1 < w1.heap.size := HZ.out.lt
  clear HZ HO HR1 HBW
  generalize w1.alloc (.cells #[.string ⟨m'.t.toArray⟩, .int .i64 m'.nx, .int .i64 m'.bs, .int .i64 m'.cd, .int .i64 m'.pl] 58) = W at *
  generalize w1.heap.size = xb at *
  have hxW : xb < W.heap.size := hX.lt
  obtain ⟨⟨c0, c1, c2, c3, c4⟩, _, _, _, _, _⟩ := hX.all
  obtain ⟨⟨d0, d1, d2, d3, d4⟩, g0, g1, g2, g3, g4⟩ := hZ.all
  have o1 : W.cell? ⟨w.heap.size + 1, 1, none⟩ = some (.int .i64 n) := cell_at hO
  have HR1 := Lib.hid hR
  have HX1 := Lib.hid hX
  have HZ1 := Lib.hid hZ
  have HBW := Lib.hid hBW
  have n1 : xb ≠ b := by omega
  have n2 : w.heap.size + 1 ≠ b := by omega
  have n3 : w.heap.size + 1 + 1 ≠ b := by omega
  have n4 : xb ≠ w.heap.size + 1 + 1 := by omega
  have n5 : w.heap.size + 1 + 1 ≠ xb := by omega
  clear hX hZ hR hO hBW
  go_region_held3 (fun w' => w'.cell? ⟨xb, 0, none⟩ = some (.string ⟨m'.t.toArray⟩) ∧ w'.cell? ⟨xb, 1, none⟩ = some (.int .i64 m'.nx) ∧ w'.cell? ⟨xb, 2, none⟩ = some (.int .i64 m'.bs) ∧ w'.cell? ⟨xb, 3, none⟩ = some (.int .i64 m'.cd) ∧ w'.cell? ⟨xb, 4, none⟩ = some (.int .i64 m'.pl) ∧ w'.cell? ⟨w.heap.size + 1, 1, none⟩ = some (.int .i64 n)) (go_keep)
    (first | (go_at_call 49; refine (HP.out _ ?_).mono ?_; (exact HR1.out); rintro e w3 ⟨rfl, hr3, ho3⟩; obtain ⟨hcc, hff⟩ := ocell ho3; have x0 := hcc xb 0 (by simp; omega) n1; have x1 := hcc xb 1 (by simp; omega) n1; have x2 := hcc xb 2 (by simp; omega) n1; have x3 := hcc xb 3 (by simp; omega) n1; have x4 := hcc xb 4 (by simp; omega) n1; have x5 := hcc (w.heap.size + 1) 1 (by simp; omega) n2; have y0 := hcc (w.heap.size + 1 + 1) 0 (by simp; omega) n3; have y1 := hcc (w.heap.size + 1 + 1) 1 (by simp; omega) n3; have y2 := hcc (w.heap.size + 1 + 1) 2 (by simp; omega) n3; have y3 := hcc (w.heap.size + 1 + 1) 3 (by simp; omega) n3; have y4 := hcc (w.heap.size + 1 + 1) 4 (by simp; omega) n3; have z0 := hff (w.heap.size + 1 + 1) 0 (by simp; omega) n3; have z1 := hff (w.heap.size + 1 + 1) 1 (by simp; omega) n3; have z2 := hff (w.heap.size + 1 + 1) 2 (by simp; omega) n3; have z3 := hff (w.heap.size + 1 + 1) 3 (by simp; omega) n3; have z4 := hff (w.heap.size + 1 + 1) 4 (by simp; omega) n3; clear hcc hff))
  go_wp2
  have ho4 : Only b W w3 := ⟨ho3.os, ho3.tape, ho3.output, ho3.size, ho3.block⟩
  have HZ3 := HZ1.out.only ho4 n3
  have HR3 := Lib.hid hr3
  have HO3 := Lib.hid ((Only.of_below HBW.out).trans ho4)
  exact end_cell_tmp rfl rfl rfl (store5 HZ3 rfl) Try.underlying58 rfl info_ref01In ⟨rfl, by repeat (first | with_reducible refine InAt.put ?_ (by omega) _ | with_reducible exact HR3.out), by repeat (first | with_reducible refine Only.put ?_ (by omega) _ | with_reducible exact HO3.out)⟩
set_option maxHeartbeats 2000000 in
set_option maxRecDepth 100000 in
theorem do_safe (b : Nat) (m : Rd) (n c : Int) (s : List UInt8) (w : World) (h : RdAt w b m) (hm : m.Ok) : Calls Try.prog 45 #[.pointer (some ⟨b, 0, none⟩), rdV m, opV 5 n c s] w (DoSays b (m.safe).1 w) := by
  have HR := Lib.hid (fun w => rreadsafe_any m w hm)
  have HP := Lib.hid (fun w h => insafe_any b m w h hm)
  have hlt := h.lt
  unfold DoSays
  generalize m.safe = mt at *
  obtain ⟨m', l⟩ := mt
  go_enter Try.func45, Try.ntmps45
  go_wp2_with (go_at_call 67; refine (HR.out _).mono ?_; rintro e w1 ⟨rfl, hb1⟩; have HB1 := Lib.hid hb1)
  have hB := HB1.out
  have HZ : Hid (InAt 58 w1 (w.heap.size + 1 + 1) Rd.zero) := Lib.hid (block_below (at_a3 _ _ _ _ _) hB)
  have HO : Hid (w1.heap[w.heap.size + 1]? = some (.cells #[.int .i64 5, .int .i64 n, .int .i64 c, .string ⟨s.toArray⟩] 60 (0, 0))) := Lib.hid (block_below ((heap_alloc_old _ _ (by simp)).trans (at_a2 _ _ _ _)) hB)
  have HR1 : Hid (RdAt w1 b m) := Lib.hid (((((h.alloc _).alloc _).alloc _)).below hB)
  have HBW : Hid (Below w.heap.size w w1) := Lib.hid (below_a3 hB)
  clear hB hb1 HB1
  have hX : InAt 58 (w1.alloc (.cells #[.string ⟨m'.t.toArray⟩, .int .i64 m'.nx, .int .i64 m'.bs, .int .i64 m'.cd, .int .i64 m'.pl] 58)) w1.heap.size m' := at_a0 _ _ _
  have hZ := HZ.out.alloc (.cells #[.string ⟨m'.t.toArray⟩, .int .i64 m'.nx, .int .i64 m'.bs, .int .i64 m'.cd, .int .i64 m'.pl] 58)
  have hR := HR1.out.alloc (.cells #[.string ⟨m'.t.toArray⟩, .int .i64 m'.nx, .int .i64 m'.bs, .int .i64 m'.cd, .int .i64 m'.pl] 58)
  have hO : (w1.alloc (.cells #[.string ⟨m'.t.toArray⟩, .int .i64 m'.nx, .int .i64 m'.bs, .int .i64 m'.cd, .int .i64 m'.pl] 58)).heap[w.heap.size + 1]? = _ := (heap_alloc_old _ _ (Array.getElem?_eq_some_iff.1 HO.out).1).trans HO.out
  have hBW := HBW.out.alloc HBW.out.size (.cells #[.string ⟨m'.t.toArray⟩, .int .i64 m'.nx, .int .i64 m'.bs, .int .i64 m'.cd, .int .i64 m'.pl] 58)
  have hxb : w.heap.size + 1 + 1 < w1.heap.size := HZ.out.lt
  clear HZ HO HR1 HBW
  generalize w1.alloc (.cells #[.string ⟨m'.t.toArray⟩, .int .i64 m'.nx, .int .i64 m'.bs, .int .i64 m'.cd, .int .i64 m'.pl] 58) = W at *
  generalize w1.heap.size = xb at *
  have hxW : xb < W.heap.size := hX.lt
  obtain ⟨⟨c0, c1, c2, c3, c4⟩, _, _, _, _, _⟩ := hX.all
  obtain ⟨⟨d0, d1, d2, d3, d4⟩, g0, g1, g2, g3, g4⟩ := hZ.all
  have o1 : W.cell? ⟨w.heap.size + 1, 1, none⟩ = some (.int .i64 n) := cell_at hO
  have HR1 := Lib.hid hR
  have HX1 := Lib.hid hX
  have HZ1 := Lib.hid hZ
  have HBW := Lib.hid hBW
  have n1 : xb ≠ b := by omega
  have n2 : w.heap.size + 1 ≠ b := by omega
  have n3 : w.heap.size + 1 + 1 ≠ b := by omega
  have n4 : xb ≠ w.heap.size + 1 + 1 := by omega
  have n5 : w.heap.size + 1 + 1 ≠ xb := by omega
  clear hX hZ hR hO hBW
  go_region_held3 (fun w' => w'.cell? ⟨xb, 0, none⟩ = some (.string ⟨m'.t.toArray⟩) ∧ w'.cell? ⟨xb, 1, none⟩ = some (.int .i64 m'.nx) ∧ w'.cell? ⟨xb, 2, none⟩ = some (.int .i64 m'.bs) ∧ w'.cell? ⟨xb, 3, none⟩ = some (.int .i64 m'.cd) ∧ w'.cell? ⟨xb, 4, none⟩ = some (.int .i64 m'.pl) ∧ w'.cell? ⟨w.heap.size + 1, 1, none⟩ = some (.int .i64 n)) (go_keep)
    (first | (go_at_call 26; refine (HP.out _ ?_).mono ?_; (exact HR1.out); rintro e w3 ⟨rfl, hr3, ho3⟩; obtain ⟨hcc, hff⟩ := ocell ho3; have x0 := hcc xb 0 (by simp; omega) n1; have x1 := hcc xb 1 (by simp; omega) n1; have x2 := hcc xb 2 (by simp; omega) n1; have x3 := hcc xb 3 (by simp; omega) n1; have x4 := hcc xb 4 (by simp; omega) n1; have x5 := hcc (w.heap.size + 1) 1 (by simp; omega) n2; have y0 := hcc (w.heap.size + 1 + 1) 0 (by simp; omega) n3; have y1 := hcc (w.heap.size + 1 + 1) 1 (by simp; omega) n3; have y2 := hcc (w.heap.size + 1 + 1) 2 (by simp; omega) n3; have y3 := hcc (w.heap.size + 1 + 1) 3 (by simp; omega) n3; have y4 := hcc (w.heap.size + 1 + 1) 4 (by simp; omega) n3; have z0 := hff (w.heap.size + 1 + 1) 0 (by simp; omega) n3; have z1 := hff (w.heap.size + 1 + 1) 1 (by simp; omega) n3; have z2 := hff (w.heap.size + 1 + 1) 2 (by simp; omega) n3; have z3 := hff (w.heap.size + 1 + 1) 3 (by simp; omega) n3; have z4 := hff (w.heap.size + 1 + 1) 4 (by simp; omega) n3; clear hcc hff))
  go_wp2
  have ho4 : Only b W w3 := ⟨ho3.os, ho3.tape, ho3.output, ho3.size, ho3.block⟩
  have HZ3 := HZ1.out.only ho4 n3
  have HR3 := Lib.hid hr3
  have HO3 := Lib.hid ((Only.of_below HBW.out).trans ho4)
  exact end_cell_tmp rfl rfl rfl (store5 HZ3 rfl) Try.underlying58 rfl info_ref01In ⟨rfl, by repeat (first | with_reducible refine InAt.put ?_ (by omega) _ | with_reducible exact HR3.out), by repeat (first | with_reducible refine Only.put ?_ (by omega) _ | with_reducible exact HO3.out)⟩
set_option maxHeartbeats 2000000 in
set_option maxRecDepth 100000 in
theorem do_want (b : Nat) (m : Rd) (n c : Int) (s : List UInt8) (w : World) (h : RdAt w b m) (hm : m.Ok) (hs : s.length ≤ 1000000000) : Calls Try.prog 45 #[.pointer (some ⟨b, 0, none⟩), rdV m, opV 6 n c s] w (DoSays b (m.want s).1 w) := by
  have HR := Lib.hid (fun w => rwant_any m s w hm hs)
  have HP := Lib.hid (fun w h => want_any b m s w h hm hs)
  have hlt := h.lt
  unfold DoSays
  generalize m.want s = mt at *
  obtain ⟨m', l⟩ := mt
  go_enter Try.func45, Try.ntmps45
  go_wp2_with (go_at_call 68; refine (HR.out _).mono ?_; rintro e w1 ⟨rfl, hb1⟩; have HB1 := Lib.hid hb1)
  have hB := HB1.out
  have HZ : Hid (InAt 58 w1 (w.heap.size + 1 + 1) Rd.zero) := Lib.hid (block_below (at_a3 _ _ _ _ _) hB)
  have HO : Hid (w1.heap[w.heap.size + 1]? = some (.cells #[.int .i64 6, .int .i64 n, .int .i64 c, .string ⟨s.toArray⟩] 60 (0, 0))) := Lib.hid (block_below ((heap_alloc_old _ _ (by simp)).trans (at_a2 _ _ _ _)) hB)
  have HR1 : Hid (RdAt w1 b m) := Lib.hid (((((h.alloc _).alloc _).alloc _)).below hB)
  have HBW : Hid (Below w.heap.size w w1) := Lib.hid (below_a3 hB)
  clear hB hb1 HB1
  have hX : InAt 58 (w1.alloc (.cells #[.string ⟨m'.t.toArray⟩, .int .i64 m'.nx, .int .i64 m'.bs, .int .i64 m'.cd, .int .i64 m'.pl] 58)) w1.heap.size m' := at_a0 _ _ _
  have hZ := HZ.out.alloc (.cells #[.string ⟨m'.t.toArray⟩, .int .i64 m'.nx, .int .i64 m'.bs, .int .i64 m'.cd, .int .i64 m'.pl] 58)
  have hR := HR1.out.alloc (.cells #[.string ⟨m'.t.toArray⟩, .int .i64 m'.nx, .int .i64 m'.bs, .int .i64 m'.cd, .int .i64 m'.pl] 58)
  have hO : (w1.alloc (.cells #[.string ⟨m'.t.toArray⟩, .int .i64 m'.nx, .int .i64 m'.bs, .int .i64 m'.cd, .int .i64 m'.pl] 58)).heap[w.heap.size + 1]? = _ := (heap_alloc_old _ _ (Array.getElem?_eq_some_iff.1 HO.out).1).trans HO.out
  have hBW := HBW.out.alloc HBW.out.size (.cells #[.string ⟨m'.t.toArray⟩, .int .i64 m'.nx, .int .i64 m'.bs, .int .i64 m'.cd, .int .i64 m'.pl] 58)
  have hxb : w.heap.size + 1 + 1 < w1.heap.size := HZ.out.lt
  clear HZ HO HR1 HBW
  generalize w1.alloc (.cells #[.string ⟨m'.t.toArray⟩, .int .i64 m'.nx, .int .i64 m'.bs, .int .i64 m'.cd, .int .i64 m'.pl] 58) = W at *
  generalize w1.heap.size = xb at *
  have hxW : xb < W.heap.size := hX.lt
  obtain ⟨⟨c0, c1, c2, c3, c4⟩, _, _, _, _, _⟩ := hX.all
  obtain ⟨⟨d0, d1, d2, d3, d4⟩, g0, g1, g2, g3, g4⟩ := hZ.all
  have o1 : W.cell? ⟨w.heap.size + 1, 3, none⟩ = some (.string ⟨s.toArray⟩) := cell_at hO
  have HR1 := Lib.hid hR
  have HX1 := Lib.hid hX
  have HZ1 := Lib.hid hZ
  have HBW := Lib.hid hBW
  have n1 : xb ≠ b := by omega
  have n2 : w.heap.size + 1 ≠ b := by omega
  have n3 : w.heap.size + 1 + 1 ≠ b := by omega
  have n4 : xb ≠ w.heap.size + 1 + 1 := by omega
  have n5 : w.heap.size + 1 + 1 ≠ xb := by omega
  clear hX hZ hR hO hBW
  go_region_held3 (fun w' => w'.cell? ⟨xb, 0, none⟩ = some (.string ⟨m'.t.toArray⟩) ∧ w'.cell? ⟨xb, 1, none⟩ = some (.int .i64 m'.nx) ∧ w'.cell? ⟨xb, 2, none⟩ = some (.int .i64 m'.bs) ∧ w'.cell? ⟨xb, 3, none⟩ = some (.int .i64 m'.cd) ∧ w'.cell? ⟨xb, 4, none⟩ = some (.int .i64 m'.pl) ∧ w'.cell? ⟨w.heap.size + 1, 3, none⟩ = some (.string ⟨s.toArray⟩)) (go_keep)
    (first | (go_at_call 52; refine (HP.out _ ?_).mono ?_; (exact HR1.out); rintro e w3 ⟨rfl, hr3, ho3⟩; obtain ⟨hcc, hff⟩ := ocell ho3; have x0 := hcc xb 0 (by simp; omega) n1; have x1 := hcc xb 1 (by simp; omega) n1; have x2 := hcc xb 2 (by simp; omega) n1; have x3 := hcc xb 3 (by simp; omega) n1; have x4 := hcc xb 4 (by simp; omega) n1; have x5 := hcc (w.heap.size + 1) 3 (by simp; omega) n2; have y0 := hcc (w.heap.size + 1 + 1) 0 (by simp; omega) n3; have y1 := hcc (w.heap.size + 1 + 1) 1 (by simp; omega) n3; have y2 := hcc (w.heap.size + 1 + 1) 2 (by simp; omega) n3; have y3 := hcc (w.heap.size + 1 + 1) 3 (by simp; omega) n3; have y4 := hcc (w.heap.size + 1 + 1) 4 (by simp; omega) n3; have z0 := hff (w.heap.size + 1 + 1) 0 (by simp; omega) n3; have z1 := hff (w.heap.size + 1 + 1) 1 (by simp; omega) n3; have z2 := hff (w.heap.size + 1 + 1) 2 (by simp; omega) n3; have z3 := hff (w.heap.size + 1 + 1) 3 (by simp; omega) n3; have z4 := hff (w.heap.size + 1 + 1) 4 (by simp; omega) n3; clear hcc hff))
  go_wp2
  have ho4 : Only b W w3 := ⟨ho3.os, ho3.tape, ho3.output, ho3.size, ho3.block⟩
  have HZ3 := HZ1.out.only ho4 n3
  have HR3 := Lib.hid hr3
  have HO3 := Lib.hid ((Only.of_below HBW.out).trans ho4)
  exact end_cell_tmp rfl rfl rfl (store5 HZ3 rfl) Try.underlying58 rfl info_ref01In ⟨rfl, by repeat (first | with_reducible refine InAt.put ?_ (by omega) _ | with_reducible exact HR3.out), by repeat (first | with_reducible refine Only.put ?_ (by omega) _ | with_reducible exact HO3.out)⟩
set_option maxHeartbeats 2000000 in
set_option maxRecDepth 100000 in
theorem do_until (b : Nat) (m : Rd) (n c : Int) (s : List UInt8) (w : World) (h : RdAt w b m) (hm : m.Ok) (hs : s.length ≤ 1000000000) : Calls Try.prog 45 #[.pointer (some ⟨b, 0, none⟩), rdV m, opV 7 n c s] w (DoSays b (m.until s).1 w) := by
  have HR := Lib.hid (fun w => runtil_any m s w hm hs)
  have HP := Lib.hid (fun w h => until_any b m s w h hm hs)
  have hlt := h.lt
  unfold DoSays
  generalize m.until s = mt at *
  obtain ⟨m', l⟩ := mt
  go_enter Try.func45, Try.ntmps45
  go_wp2_with (go_at_call 69; refine (HR.out _).mono ?_; rintro e w1 ⟨rfl, hb1⟩; have HB1 := Lib.hid hb1)
  have hB := HB1.out
  have HZ : Hid (InAt 58 w1 (w.heap.size + 1 + 1) Rd.zero) := Lib.hid (block_below (at_a3 _ _ _ _ _) hB)
  have HO : Hid (w1.heap[w.heap.size + 1]? = some (.cells #[.int .i64 7, .int .i64 n, .int .i64 c, .string ⟨s.toArray⟩] 60 (0, 0))) := Lib.hid (block_below ((heap_alloc_old _ _ (by simp)).trans (at_a2 _ _ _ _)) hB)
  have HR1 : Hid (RdAt w1 b m) := Lib.hid (((((h.alloc _).alloc _).alloc _)).below hB)
  have HBW : Hid (Below w.heap.size w w1) := Lib.hid (below_a3 hB)
  clear hB hb1 HB1
  have hX : InAt 58 (w1.alloc (.cells #[.string ⟨m'.t.toArray⟩, .int .i64 m'.nx, .int .i64 m'.bs, .int .i64 m'.cd, .int .i64 m'.pl] 58)) w1.heap.size m' := at_a0 _ _ _
  have hZ := HZ.out.alloc (.cells #[.string ⟨m'.t.toArray⟩, .int .i64 m'.nx, .int .i64 m'.bs, .int .i64 m'.cd, .int .i64 m'.pl] 58)
  have hR := HR1.out.alloc (.cells #[.string ⟨m'.t.toArray⟩, .int .i64 m'.nx, .int .i64 m'.bs, .int .i64 m'.cd, .int .i64 m'.pl] 58)
  have hO : (w1.alloc (.cells #[.string ⟨m'.t.toArray⟩, .int .i64 m'.nx, .int .i64 m'.bs, .int .i64 m'.cd, .int .i64 m'.pl] 58)).heap[w.heap.size + 1]? = _ := (heap_alloc_old _ _ (Array.getElem?_eq_some_iff.1 HO.out).1).trans HO.out
  have hBW := HBW.out.alloc HBW.out.size (.cells #[.string ⟨m'.t.toArray⟩, .int .i64 m'.nx, .int .i64 m'.bs, .int .i64 m'.cd, .int .i64 m'.pl] 58)
  have hxb : w.heap.size + 1 + 1 < w1.heap.size := HZ.out.lt
  clear HZ HO HR1 HBW
  generalize w1.alloc (.cells #[.string ⟨m'.t.toArray⟩, .int .i64 m'.nx, .int .i64 m'.bs, .int .i64 m'.cd, .int .i64 m'.pl] 58) = W at *
  generalize w1.heap.size = xb at *
  have hxW : xb < W.heap.size := hX.lt
  obtain ⟨⟨c0, c1, c2, c3, c4⟩, _, _, _, _, _⟩ := hX.all
  obtain ⟨⟨d0, d1, d2, d3, d4⟩, g0, g1, g2, g3, g4⟩ := hZ.all
  have o1 : W.cell? ⟨w.heap.size + 1, 3, none⟩ = some (.string ⟨s.toArray⟩) := cell_at hO
  have HR1 := Lib.hid hR
  have HX1 := Lib.hid hX
  have HZ1 := Lib.hid hZ
  have HBW := Lib.hid hBW
  have n1 : xb ≠ b := by omega
  have n2 : w.heap.size + 1 ≠ b := by omega
  have n3 : w.heap.size + 1 + 1 ≠ b := by omega
  have n4 : xb ≠ w.heap.size + 1 + 1 := by omega
  have n5 : w.heap.size + 1 + 1 ≠ xb := by omega
  clear hX hZ hR hO hBW
  go_region_held3 (fun w' => w'.cell? ⟨xb, 0, none⟩ = some (.string ⟨m'.t.toArray⟩) ∧ w'.cell? ⟨xb, 1, none⟩ = some (.int .i64 m'.nx) ∧ w'.cell? ⟨xb, 2, none⟩ = some (.int .i64 m'.bs) ∧ w'.cell? ⟨xb, 3, none⟩ = some (.int .i64 m'.cd) ∧ w'.cell? ⟨xb, 4, none⟩ = some (.int .i64 m'.pl) ∧ w'.cell? ⟨w.heap.size + 1, 3, none⟩ = some (.string ⟨s.toArray⟩)) (go_keep)
    (first | (go_at_call 53; refine (HP.out _ ?_).mono ?_; (exact HR1.out); rintro e w3 ⟨rfl, hr3, ho3⟩; obtain ⟨hcc, hff⟩ := ocell ho3; have x0 := hcc xb 0 (by simp; omega) n1; have x1 := hcc xb 1 (by simp; omega) n1; have x2 := hcc xb 2 (by simp; omega) n1; have x3 := hcc xb 3 (by simp; omega) n1; have x4 := hcc xb 4 (by simp; omega) n1; have x5 := hcc (w.heap.size + 1) 3 (by simp; omega) n2; have y0 := hcc (w.heap.size + 1 + 1) 0 (by simp; omega) n3; have y1 := hcc (w.heap.size + 1 + 1) 1 (by simp; omega) n3; have y2 := hcc (w.heap.size + 1 + 1) 2 (by simp; omega) n3; have y3 := hcc (w.heap.size + 1 + 1) 3 (by simp; omega) n3; have y4 := hcc (w.heap.size + 1 + 1) 4 (by simp; omega) n3; have z0 := hff (w.heap.size + 1 + 1) 0 (by simp; omega) n3; have z1 := hff (w.heap.size + 1 + 1) 1 (by simp; omega) n3; have z2 := hff (w.heap.size + 1 + 1) 2 (by simp; omega) n3; have z3 := hff (w.heap.size + 1 + 1) 3 (by simp; omega) n3; have z4 := hff (w.heap.size + 1 + 1) 4 (by simp; omega) n3; clear hcc hff))
  go_wp2
  have ho4 : Only b W w3 := ⟨ho3.os, ho3.tape, ho3.output, ho3.size, ho3.block⟩
  have HZ3 := HZ1.out.only ho4 n3
  have HR3 := Lib.hid hr3
  have HO3 := Lib.hid ((Only.of_below HBW.out).trans ho4)
  exact end_cell_tmp rfl rfl rfl (store5 HZ3 rfl) Try.underlying58 rfl info_ref01In ⟨rfl, by repeat (first | with_reducible refine InAt.put ?_ (by omega) _ | with_reducible exact HR3.out), by repeat (first | with_reducible refine Only.put ?_ (by omega) _ | with_reducible exact HO3.out)⟩

set_option maxHeartbeats 2000000 in
set_option maxRecDepth 100000 in
theorem do_fail (b : Nat) (m : Rd) (n c : Int) (s : List UInt8) (w : World) (h : RdAt w b m) : Calls Try.prog 45 #[.pointer (some ⟨b, 0, none⟩), rdV m, opV 8 n c s] w (DoSays b (m.fail c n) w) := by
  have HR := Lib.hid (fun w => rfail_any m c n w)
  have HP := Lib.hid (fun w h => fail_any b m c n w h)
  have hlt := h.lt
  unfold DoSays
  generalize m.fail c n = m' at *
  have n1 : w.heap.size ≠ b := by omega
  have n2 : w.heap.size + 1 ≠ b := by omega
  have n3 : w.heap.size + 1 + 1 ≠ b := by omega
  go_enter Try.func45, Try.ntmps45
  go_wp2_with (first | (go_at_call 48; refine (HP.out _ (((h.alloc _).alloc _).alloc _)).mono ?_; rintro e w1 ⟨rfl, hr1, ho1⟩; obtain ⟨hcc, hff⟩ := ocell ho1; have x0 := hcc w.heap.size 0 (by simp; omega) n1; have x1 := hcc w.heap.size 1 (by simp; omega) n1; have x2 := hcc w.heap.size 2 (by simp; omega) n1; have x3 := hcc w.heap.size 3 (by simp; omega) n1; have x4 := hcc w.heap.size 4 (by simp; omega) n1; have y1 := hcc (w.heap.size + 1) 1 (by simp) n2; have y2 := hcc (w.heap.size + 1) 2 (by simp) n2; have HO1 := Lib.hid ho1; have HR1 := Lib.hid hr1; have HZ1 : Hid (InAt 58 w1 (w.heap.size + 1 + 1) Rd.zero) := Lib.hid (block_only (at_a3 _ _ _ _ _) ho1 n3); clear hcc hff hr1 ho1) | (go_at_call 70; refine (HR.out _).mono ?_; rintro e w2 ⟨rfl, hb2⟩; obtain ⟨⟨d0, d1, d2, d3, d4⟩, g0, g1, g2, g3, g4⟩ := (HZ1.out.below hb2).all))
  have HR3 := Lib.hid (HR1.out.below hb2)
  have HO3 : Hid (Only b w w2) := Lib.hid (((Only.of_below ((((Below.refl _ _).alloc (Nat.le_refl _) _).alloc (by simp) _).alloc (by simp; omega) _)).trans HO1.out).trans (Only.of_below hb2))
  exact end_cell_tmp rfl rfl rfl (store5 (HZ1.out.below hb2) rfl) Try.underlying58 rfl info_ref01In ⟨rfl, by repeat (first | with_reducible refine InAt.put ?_ (by omega) _ | with_reducible exact HR3.out), by repeat (first | with_reducible refine Only.put ?_ (by omega) _ | with_reducible exact HO3.out)⟩

set_option maxHeartbeats 2000000 in
set_option maxRecDepth 100000 in
theorem do_none (b : Nat) (m : Rd) (k n c : Int) (s : List UInt8) (w : World) (h : RdAt w b m) (hk : k < 0 ∨ 8 < k) : Calls Try.prog 45 #[.pointer (some ⟨b, 0, none⟩), rdV m, opV k n c s] w (DoSays b m w) := by
  unfold DoSays
  have hlt := h.lt
  have k0 : (k == 0) = false := beq_eq_false_iff_ne.2 (by omega)
  have k1 : (k == 1) = false := beq_eq_false_iff_ne.2 (by omega)
  have k2 : (k == 2) = false := beq_eq_false_iff_ne.2 (by omega)
  have k3 : (k == 3) = false := beq_eq_false_iff_ne.2 (by omega)
  have k4 : (k == 4) = false := beq_eq_false_iff_ne.2 (by omega)
  have k5 : (k == 5) = false := beq_eq_false_iff_ne.2 (by omega)
  have k6 : (k == 6) = false := beq_eq_false_iff_ne.2 (by omega)
  have k7 : (k == 7) = false := beq_eq_false_iff_ne.2 (by omega)
  have k8 : (k == 8) = false := beq_eq_false_iff_ne.2 (by omega)
  clear hk
  go_enter Try.func45, Try.ntmps45
  go_wp2
  exact end_cell_tmp rfl rfl rfl (at_a3 _ _ _ _ _) Try.underlying58 rfl info_ref01In ⟨rfl, ((h.alloc _).alloc _).alloc _, Only.of_below ((((Below.refl _ _).alloc (Nat.le_refl _) _).alloc (by simp) _).alloc (by simp; omega) _)⟩
end Go.Proofs.Ytfbdgahbhlapmaa
