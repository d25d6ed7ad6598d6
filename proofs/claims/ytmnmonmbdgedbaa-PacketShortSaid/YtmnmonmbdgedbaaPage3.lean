/- Layer 17 (page): a page's sum and its bytes, walked. -/
import Derived.Test.YtmnmonmbdgedbaaPage2
namespace Go.Proofs.Ytmnmonmbdgedbaa
open Go.RowKit
set_option linter.unusedVariables false

def sumP (p : Pg) : BitVec 32 := adds 0 (partsL p [0, 0, 0, 0])
def printL (p : Pg) : List UInt8 := (partsL p (smallL (sumP p).toNat 4)).flatten
theorem parts_le (p : Pg) (four : List UInt8) (n : Nat) (h4 : four.length ≤ 4) (hl : p.la.length ≤ n) (hb : p.bo.length ≤ n) (hn : 10 ≤ n) : ∀ q ∈ partsL p four, q.length ≤ n := by
  intro q hq
  simp only [partsL, List.mem_cons, List.not_mem_nil, or_false] at hq
  rcases hq with rfl | rfl | rfl | rfl | rfl | rfl | rfl | rfl | rfl | rfl
  all_goals ((try simp only [smallL_len, bigL_len, List.length_cons, List.length_nil]); omega)
theorem parts_ten (p : Pg) (four : List UInt8) : (partsL p four).length = 10 := rfl
theorem parts_flat (p : Pg) (four : List UInt8) (n : Nat) (h4 : four.length ≤ 4) (hl : p.la.length ≤ n) (hb : p.bo.length ≤ n) (hn : 10 ≤ n) : (partsL p four).flatten.length ≤ n * 10 := flat_len _ n (parts_le p four n h4 hl hb hn)

set_option maxRecDepth 100000 in
theorem psum_any (p : Pg) (w : World) (hp : p.Ok) (hl : p.la.length ≤ 1000000) (hb : p.bo.length ≤ 1000000) :
    Calls Try.prog 143 #[pgV p] w fun e w' => e = .returned (.int .u32 (sumP p).toNat) ∧ Below w.heap.size w w' := by
  have PA := Lib.hid (fun w => parts_any p [0, 0, 0, 0] w hp (by omega))
  have SU := Lib.hid (fun a w h => sumOf_any a 10 10 (partsL p [0, 0, 0, 0]) w h (by decide) (parts_le p [0, 0, 0, 0] 1000000000 (by decide) (by omega) (by omega) (by decide)))
  unfold sumP
  generalize partsL p [0, 0, 0, 0] = P at *
  generalize adds 0 P = z at *
  unfold pgV pgR at *
  clear hp hl hb
  go_enter Try.func143, Try.ntmps143
  go_wp2_with (first | (go_at_call 142; (with_reducible refine (PA.out _).mono ?_); rintro e w1 ⟨g, rfl, hs1, hb1⟩; have H1 := Lib.hid hs1; have K1 := Lib.hid (below_a1 hb1); clear hs1 hb1) | (go_at_call 146; (with_reducible refine (SU.out _ _ H1.out).mono ?_); rintro e w2 ⟨rfl, hb2⟩))
  go_ret
  exact ⟨rfl, nextB K1.out hb2⟩

theorem blocks_keep {V W w : World} {b : Nat} {o : Obj} (hb : Below V.heap.size V W) (k : Below W.heap.size W w) (h : V.heap[b]? = some o) : w.heap[b]? = some o := block_below h (nextB hb k)
/-- the cells of a box and of a fault's place, kept behind new memory -/
theorem keepXF {V W w : World} {xb fb : Nat} {p : Pg} (hb : Below V.heap.size V W) (k : Below W.heap.size W w) (hx : xb < V.heap.size) (hf : fb < V.heap.size)
    (h : V.cell? ⟨xb, 0, none⟩ = some (.int .u8 p.fl.toNat) ∧ V.cell? ⟨xb, 1, none⟩ = some (.int .u64 p.po) ∧ V.cell? ⟨xb, 2, none⟩ = some (.int .u32 p.se) ∧ V.cell? ⟨xb, 3, none⟩ = some (.int .u32 p.nu) ∧ V.cell? ⟨xb, 4, none⟩ = some (.string ⟨p.la.toArray⟩) ∧ V.cell? ⟨xb, 5, none⟩ = some (.string ⟨p.bo.toArray⟩) ∧ V.cell? ⟨fb, 0, none⟩ = some (.int .i64 0) ∧ V.cell? ⟨fb, 1, none⟩ = some (.int .i64 0) ∧ V.frozen? ⟨fb, 0, none⟩ = false ∧ V.frozen? ⟨fb, 1, none⟩ = false) : w.cell? ⟨xb, 0, none⟩ = some (.int .u8 p.fl.toNat) ∧ w.cell? ⟨xb, 1, none⟩ = some (.int .u64 p.po) ∧ w.cell? ⟨xb, 2, none⟩ = some (.int .u32 p.se) ∧ w.cell? ⟨xb, 3, none⟩ = some (.int .u32 p.nu) ∧ w.cell? ⟨xb, 4, none⟩ = some (.string ⟨p.la.toArray⟩) ∧ w.cell? ⟨xb, 5, none⟩ = some (.string ⟨p.bo.toArray⟩) ∧ w.cell? ⟨fb, 0, none⟩ = some (.int .i64 0) ∧ w.cell? ⟨fb, 1, none⟩ = some (.int .i64 0) ∧ w.frozen? ⟨fb, 0, none⟩ = false ∧ w.frozen? ⟨fb, 1, none⟩ = false := by
  have hb2 := nextB hb k
  have e : ∀ j, w.cell? ⟨xb, j, none⟩ = V.cell? ⟨xb, j, none⟩ := fun j => hb2.cell (p := ⟨xb, j, none⟩) hx
  have e2 : ∀ j, w.cell? ⟨fb, j, none⟩ = V.cell? ⟨fb, j, none⟩ := fun j => hb2.cell (p := ⟨fb, j, none⟩) hf
  have e3 : ∀ j, w.frozen? ⟨fb, j, none⟩ = V.frozen? ⟨fb, j, none⟩ := fun j => hb2.frozen (p := ⟨fb, j, none⟩) hf
  rw [e, e, e, e, e, e, e2, e2, e3, e3]
  exact h

theorem far_cell (w : World) {b c j i : Nat} (v : Value) (h : b ≠ c) : (w.setCell ⟨c, j, none⟩ v).cell? ⟨b, i, none⟩ = w.cell? ⟨b, i, none⟩ := World.cell?_setCell_other _ _ _ _ (by intro e; exact h (congrArg Addr.block e).symm)
theorem off_cell (w : World) {b j i : Nat} (v : Value) (h : j ≠ i) : (w.setCell ⟨b, j, none⟩ v).cell? ⟨b, i, none⟩ = w.cell? ⟨b, i, none⟩ := World.cell?_setCell_other _ _ _ _ (by intro e; exact h (congrArg Addr.off e))
/-- .. and behind the store of no fault -/
theorem storeXF {w : World} {xb fb : Nat} {p : Pg} (hne : xb ≠ fb) (h : w.cell? ⟨xb, 0, none⟩ = some (.int .u8 p.fl.toNat) ∧ w.cell? ⟨xb, 1, none⟩ = some (.int .u64 p.po) ∧ w.cell? ⟨xb, 2, none⟩ = some (.int .u32 p.se) ∧ w.cell? ⟨xb, 3, none⟩ = some (.int .u32 p.nu) ∧ w.cell? ⟨xb, 4, none⟩ = some (.string ⟨p.la.toArray⟩) ∧ w.cell? ⟨xb, 5, none⟩ = some (.string ⟨p.bo.toArray⟩) ∧ w.cell? ⟨fb, 0, none⟩ = some (.int .i64 0) ∧ w.cell? ⟨fb, 1, none⟩ = some (.int .i64 0) ∧ w.frozen? ⟨fb, 0, none⟩ = false ∧ w.frozen? ⟨fb, 1, none⟩ = false) : ((w.setCell ⟨fb, 0, none⟩ (.int .i64 0)).setCell ⟨fb, 1, none⟩ (.int .i64 0)).cell? ⟨xb, 0, none⟩ = some (.int .u8 p.fl.toNat) ∧ ((w.setCell ⟨fb, 0, none⟩ (.int .i64 0)).setCell ⟨fb, 1, none⟩ (.int .i64 0)).cell? ⟨xb, 1, none⟩ = some (.int .u64 p.po) ∧ ((w.setCell ⟨fb, 0, none⟩ (.int .i64 0)).setCell ⟨fb, 1, none⟩ (.int .i64 0)).cell? ⟨xb, 2, none⟩ = some (.int .u32 p.se) ∧ ((w.setCell ⟨fb, 0, none⟩ (.int .i64 0)).setCell ⟨fb, 1, none⟩ (.int .i64 0)).cell? ⟨xb, 3, none⟩ = some (.int .u32 p.nu) ∧ ((w.setCell ⟨fb, 0, none⟩ (.int .i64 0)).setCell ⟨fb, 1, none⟩ (.int .i64 0)).cell? ⟨xb, 4, none⟩ = some (.string ⟨p.la.toArray⟩) ∧ ((w.setCell ⟨fb, 0, none⟩ (.int .i64 0)).setCell ⟨fb, 1, none⟩ (.int .i64 0)).cell? ⟨xb, 5, none⟩ = some (.string ⟨p.bo.toArray⟩) ∧ ((w.setCell ⟨fb, 0, none⟩ (.int .i64 0)).setCell ⟨fb, 1, none⟩ (.int .i64 0)).cell? ⟨fb, 0, none⟩ = some (.int .i64 0) ∧ ((w.setCell ⟨fb, 0, none⟩ (.int .i64 0)).setCell ⟨fb, 1, none⟩ (.int .i64 0)).cell? ⟨fb, 1, none⟩ = some (.int .i64 0) ∧ ((w.setCell ⟨fb, 0, none⟩ (.int .i64 0)).setCell ⟨fb, 1, none⟩ (.int .i64 0)).frozen? ⟨fb, 0, none⟩ = false ∧ ((w.setCell ⟨fb, 0, none⟩ (.int .i64 0)).setCell ⟨fb, 1, none⟩ (.int .i64 0)).frozen? ⟨fb, 1, none⟩ = false := by
  obtain ⟨a0, a1, a2, a3, a4, a5, c0, c1, f0, f1⟩ := h
  simp only [far_cell _ _ hne, World.frozen?_setCell]
  refine ⟨a0, a1, a2, a3, a4, a5, ?_, ?_, f0, f1⟩
  · rw [off_cell _ _ (by decide)]; exact World.cell?_setCell_same _ _ _ c0
  · refine World.cell?_setCell_same _ _ _ (u := .int .i64 0) ?_; rw [off_cell _ _ (by decide)]; exact c1

set_option maxHeartbeats 1000000 in
set_option maxRecDepth 100000 in
theorem print_bad (p : Pg) (w : World) (hl : p.la.length ≤ 1000000) (hc : checkC p ≠ 0) :
    Calls Try.prog 134 #[pgV p] w fun e w' => e = .returned (.tuple #[.string ⟨#[]⟩, .agg #[.int .i64 (checkC p), .int .i64 0]]) ∧ Below w.heap.size w w' := by
  have CK := Lib.hid (fun w => check_any p w (by omega))
  generalize checkC p = c at *
  have BD := Lib.hid (fun w => bad_any c 0 w)
  rw [show (c != 0) = true by simpa using hc] at BD
  unfold pgV pgR at *
  clear hl hc
  go_enter Try.func134, Try.ntmps134
  go_upto_region 3 with (first | (go_at_call 44; (with_reducible refine (CK.out _).mono ?_); rintro e w1 ⟨rfl, hb1⟩; have K1 := Lib.hid hb1; have HF1 := Lib.hid (block_below (at_a2 w _ _ _) hb1); clear hb1) | (go_at_call 16; (with_reducible refine (BD.out _).mono ?_); rintro e w2 ⟨rfl, hb2⟩; have K2 := Lib.hid hb2; clear hb2))
  have hF2 := block_below (heap_alloc_old w1 (.cells #[.int .i64 c, .int .i64 0] 31) (Array.getElem?_eq_some_iff.1 HF1.out).1 |>.trans HF1.out) K2.out
  have hT2 := block_below (at_a0 w1 #[.int .i64 c, .int .i64 0] 31) K2.out
  have c0 := cell_at (j := 0) hT2
  have c1 := cell_at (j := 1) hT2
  have f0 := free_at (j := 0) hF2
  have f1 := free_at (j := 1) hF2
  have d0 := cell_at (j := 0) hF2
  have d1 := cell_at (j := 1) hF2
  simp only [List.getElem?_toArray, List.getElem?_cons_zero, List.getElem?_cons_succ] at c0 c1 d0 d1
  have K := Lib.hid (nextB (nextB (((Below.refl _ _).alloc (Nat.le_refl _) _).alloc (by simp) _) K1.out) (below_a1 K2.out))
  have HF := Lib.hid hF2
  have hne : w.heap.size + 1 ≠ w1.heap.size := by have := K1.out.size; simp at this; omega
  clear hT2 hF2 HF1 K1 K2
  go_region
  go_wp2
  refine end_tmp_cell rfl rfl rfl (store2 (show (World.drew w2).heap[w.heap.size + 1]? = _ from HF.out) rfl) Try.underlying31 rfl (by kernel_rfl) ⟨rfl, ?_⟩
  exact Below.setCell (Below.setCell K.out.drew (by simp) _) (by simp) _

set_option maxHeartbeats 4000000 in
set_option maxRecDepth 100000 in
theorem print_ok (p : Pg) (w : World) (hp : p.Ok) (hl : p.la.length ≤ 1000000) (hb : p.bo.length ≤ 1000000) (hc : checkC p = 0) :
    Calls Try.prog 134 #[pgV p] w fun e w' => e = .returned (.tuple #[.string ⟨(printL p).toArray⟩, .agg #[.int .i64 0, .int .i64 0]]) ∧ Below w.heap.size w w' := by
  have CK := Lib.hid (fun w => check_any p w (by omega))
  rw [hc] at CK
  have BD := Lib.hid (fun w => bad_any 0 0 w)
  rw [show ((0 : Int) != 0) = false by rfl] at BD
  have SU := Lib.hid (fun w => psum_any p w hp hl hb)
  have PA := Lib.hid (fun w => parts_any p (smallL (sumP p).toNat 4) w hp (by omega))
  have BY := Lib.hid (fun w => sumBytes_any (sumP p) w)
  have JO := Lib.hid (fun a w h => octJoin_any a 10 10 (partsL p (smallL (sumP p).toNat 4)) w h (by decide) (by decide) (by have := parts_flat p (smallL (sumP p).toNat 4) 1000000 (by rw [smallL_len]; decide) hl hb (by decide); omega))
  unfold printL
  generalize partsL p (smallL (sumP p).toNat 4) = P at *
  generalize smallL (sumP p).toNat 4 = four at *
  generalize sumP p = z at *
  unfold pgV pgR at *
  clear hl hb hc hp
  go_enter Try.func134, Try.ntmps134
  go_upto_region 4 with (first | (go_at_call 44; (with_reducible refine (CK.out _).mono ?_); rintro e w1 ⟨rfl, hb1⟩; have K1 := Lib.hid hb1; have HF1 := Lib.hid (block_below (at_a2 w _ _ _) hb1); have HX1 := Lib.hid (block_below (at_a1 w _ _ _) hb1); clear hb1) | (go_at_call 16; (with_reducible refine (BD.out _).mono ?_); rintro e w2 ⟨rfl, hb2⟩; have K2 := Lib.hid hb2; clear hb2))
  have hX2 := block_below ((heap_alloc_old w1 (.cells #[.int .i64 0, .int .i64 0] 31) (Array.getElem?_eq_some_iff.1 HX1.out).1).trans HX1.out) K2.out
  have hF2 := block_below ((heap_alloc_old w1 (.cells #[.int .i64 0, .int .i64 0] 31) (Array.getElem?_eq_some_iff.1 HF1.out).1).trans HF1.out) K2.out
  have K := Lib.hid (nextB (nextB (((Below.refl _ _).alloc (Nat.le_refl _) _).alloc (by simp) _) K1.out) (below_a1 K2.out))
  have cc : w2.cell? ⟨w.heap.size, 0, none⟩ = some (.int .u8 p.fl.toNat) ∧ w2.cell? ⟨w.heap.size, 1, none⟩ = some (.int .u64 p.po) ∧ w2.cell? ⟨w.heap.size, 2, none⟩ = some (.int .u32 p.se) ∧ w2.cell? ⟨w.heap.size, 3, none⟩ = some (.int .u32 p.nu) ∧ w2.cell? ⟨w.heap.size, 4, none⟩ = some (.string ⟨p.la.toArray⟩) ∧ w2.cell? ⟨w.heap.size, 5, none⟩ = some (.string ⟨p.bo.toArray⟩) ∧ w2.cell? ⟨w.heap.size + 1, 0, none⟩ = some (.int .i64 0) ∧ w2.cell? ⟨w.heap.size + 1, 1, none⟩ = some (.int .i64 0) ∧ w2.frozen? ⟨w.heap.size + 1, 0, none⟩ = false ∧ w2.frozen? ⟨w.heap.size + 1, 1, none⟩ = false := ⟨cell_at (j := 0) hX2, cell_at (j := 1) hX2, cell_at (j := 2) hX2, cell_at (j := 3) hX2, cell_at (j := 4) hX2, cell_at (j := 5) hX2, cell_at (j := 0) hF2, cell_at (j := 1) hF2, free_at (j := 0) hF2, free_at (j := 1) hF2⟩
  have hxb := (Array.getElem?_eq_some_iff.1 hX2).1
  have hfb := (Array.getElem?_eq_some_iff.1 hF2).1
  have HF := Lib.hid hF2
  clear hX2 hF2 HX1 HF1 K1 K2 CK BD
  generalize hxe : w.heap.size = xb at *
  generalize hfe : xb + 1 = fb at *
  have HE := Lib.hid hfe
  have HX := Lib.hid hxe
  have hne : xb ≠ fb := by omega
  have hne2 : fb ≠ xb := by omega
  clear hxe hfe
  go_region_held3 (fun w' => w'.cell? ⟨xb, 0, none⟩ = some (.int .u8 p.fl.toNat) ∧ w'.cell? ⟨xb, 1, none⟩ = some (.int .u64 p.po) ∧ w'.cell? ⟨xb, 2, none⟩ = some (.int .u32 p.se) ∧ w'.cell? ⟨xb, 3, none⟩ = some (.int .u32 p.nu) ∧ w'.cell? ⟨xb, 4, none⟩ = some (.string ⟨p.la.toArray⟩) ∧ w'.cell? ⟨xb, 5, none⟩ = some (.string ⟨p.bo.toArray⟩) ∧ w'.cell? ⟨fb, 0, none⟩ = some (.int .i64 0) ∧ w'.cell? ⟨fb, 1, none⟩ = some (.int .i64 0) ∧ w'.frozen? ⟨fb, 0, none⟩ = false ∧ w'.frozen? ⟨fb, 1, none⟩ = false) (first | exact cc | exact x4 | exact x3 | exact x2 | exact x1 | exact storeXF hne x4 | fail)
    (first | (go_at_call 143; (with_reducible refine (SU.out _).mono ?_); rintro e w3 ⟨rfl, hb3⟩; have k1 := Lib.hid (drewB hb3); have x1 := keepXF k1.out (Below.refl _ _) hxb hfb cc; clear hb3) | (go_at_call 144; (with_reducible refine (BY.out _).mono ?_); rintro e w4 ⟨rfl, hb4⟩; have k2 := Lib.hid (nextB k1.out hb4); have x2 := keepXF k2.out (Below.refl _ _) hxb hfb cc; clear hb4 x1) | (go_at_call 142; (with_reducible refine (PA.out _).mono ?_); rintro e w5 ⟨g, rfl, hs5, hb5⟩; have k3 := Lib.hid (nextB k2.out hb5); have x3 := keepXF k3.out (Below.refl _ _) hxb hfb cc; have H5 := Lib.hid hs5; clear hb5 hs5 x2) | (go_at_call 50; (with_reducible refine (JO.out _ _ H5.out).mono ?_); rintro e w6 ⟨rfl, hb6⟩; have k4 := Lib.hid (nextB k3.out hb6); have x4 := keepXF k4.out (Below.refl _ _) hxb hfb cc; clear hb6 x3))
  go_wp2
  have hz := HX.out
  have he := HE.out
  subst hz
  subst he
  refine end_tmp_cell rfl rfl rfl (store2 (block_below HF.out k4.out) rfl) Try.underlying31 rfl (by kernel_rfl) ⟨rfl, ?_⟩
  exact Below.setCell (Below.setCell (nextB K.out k4.out) (by simp) _) (by simp) _
end Go.Proofs.Ytmnmonmbdgedbaa
