/- Layer 13 (frame): Check and length, walked. -/
import Derived.Test.YtmnmonmbdgedbaaFr6
namespace Go.Proofs.Ytmnmonmbdgedbaa
open Go.RowKit
set_option linter.unusedVariables false
set_option linter.unusedSimpArgs false

def nz (c : UInt8) : Bool := ((c.toNat : Int) != 0)
def wfB (v : Int) (st fm : UInt8) : Bool := (v == 2) && (nz st || nz fm)
def wgB (v : Int) (gr fm : UInt8) : Bool := nz gr && !grouped v fm
def okF (v : Int) (f : Fr) : Bool := named v f.id && (!wfB v f.st f.fm && !wgB v f.gr f.fm)
def checkF (v : Int) (f : Fr) : Int := if okF v f = true then 0 else 5
def CheckF (c : Int) (w : World) (e : Ending) (w' : World) : Prop := e = .returned (.agg #[.int .i64 c, .int .i64 0]) ∧ Below w.heap.size w w'
set_option maxHeartbeats 4000000 in
set_option maxRecDepth 100000 in
theorem check_core (v : Int) (id : List UInt8) (st fm gr : UInt8) (bo : List UInt8) (pl : Int) (gp nm tv ts tf tg : Bool) (c : Int) (w : World)
    (GR : Hid (∀ w, Calls Try.prog 108 #[hdV id st fm, .int .i64 v] w fun e w' => e = .returned (.bool gp) ∧ Below w.heap.size w w'))
    (NM : Hid (∀ w, Calls Try.prog 109 #[.int .i64 v, .string ⟨id.toArray⟩] w fun e w' => e = .returned (.bool nm) ∧ w = w'))
    (hv : (v == 2) = tv) (hs : ((st.toNat : Int) != 0) = ts) (hf : ((fm.toNat : Int) != 0) = tf) (hg : ((gr.toNat : Int) != 0) = tg)
    (HC : Hid (c = if (nm && (!(tv && (ts || tf)) && !(tg && !gp))) = true then 0 else 5)) :
    Calls Try.prog 76 #[.agg (frC id st fm gr bo pl), .int .i64 v] w (CheckF c w) := by
  unfold frC hdV at *
  rcases tv with _ | _
  · clear hs hf
    go_enter Try.func76, Try.ntmps76
    rcases tg with _ | _
    · rcases nm with _ | _
      · clear GR
        go_wp2_with (first | (go_at_call 109; (with_reducible refine (NM.out _).mono ?_); rintro e wx ⟨rfl, rfl⟩))
        exact end_cell rfl rfl rfl (at_a2 w _ _ _) Try.underlying31 rfl (by kernel_rfl) ⟨by rw [HC.out]; rfl, ((Below.refl _ _).alloc (Nat.le_refl _) _).alloc (by simp) _⟩
      · clear GR
        go_wp2_with (first | (go_at_call 109; (with_reducible refine (NM.out _).mono ?_); rintro e wx ⟨rfl, rfl⟩))
        exact end_cell rfl rfl rfl (at_a2 w _ _ _) Try.underlying31 rfl (by kernel_rfl) ⟨by rw [HC.out]; rfl, ((Below.refl _ _).alloc (Nat.le_refl _) _).alloc (by simp) _⟩
    · rcases gp with _ | _
      · rcases nm with _ | _
        · skip
          go_wp2_with (first | (go_at_call 108; (with_reducible refine (GR.out _).mono ?_); rintro e w1 ⟨rfl, hb1⟩; have X1 := block_below (at_a1 w _ _ _) hb1; obtain ⟨a0, a1, a2, a3, a4, a5⟩ := cells6 (X1); obtain ⟨af0, af1, af2, af3, af4, af5⟩ := frees6 (X1); have F1 := Lib.hid (block_below (at_a2 w _ _ _) hb1); obtain ⟨z0, z1⟩ := cells2 (F1.out); obtain ⟨zf0, zf1⟩ := frees2 (F1.out); have K1 := Lib.hid (below_a2 hb1); clear hb1 X1) | (go_at_call 109; (with_reducible refine (NM.out _).mono ?_); rintro e wx ⟨rfl, rfl⟩))
          exact end_cell rfl rfl rfl (store2 F1.out rfl) Try.underlying31 rfl (by kernel_rfl) ⟨by rw [HC.out]; rfl, (K1.out.setCell (by simp) _).setCell (by simp) _⟩
        · skip
          go_wp2_with (first | (go_at_call 108; (with_reducible refine (GR.out _).mono ?_); rintro e w1 ⟨rfl, hb1⟩; have X1 := block_below (at_a1 w _ _ _) hb1; obtain ⟨a0, a1, a2, a3, a4, a5⟩ := cells6 (X1); obtain ⟨af0, af1, af2, af3, af4, af5⟩ := frees6 (X1); have F1 := Lib.hid (block_below (at_a2 w _ _ _) hb1); obtain ⟨z0, z1⟩ := cells2 (F1.out); obtain ⟨zf0, zf1⟩ := frees2 (F1.out); have K1 := Lib.hid (below_a2 hb1); clear hb1 X1) | (go_at_call 109; (with_reducible refine (NM.out _).mono ?_); rintro e wx ⟨rfl, rfl⟩))
          exact end_cell rfl rfl rfl (store2 F1.out rfl) Try.underlying31 rfl (by kernel_rfl) ⟨by rw [HC.out]; rfl, (K1.out.setCell (by simp) _).setCell (by simp) _⟩
      · rcases nm with _ | _
        · skip
          go_wp2_with (first | (go_at_call 108; (with_reducible refine (GR.out _).mono ?_); rintro e w1 ⟨rfl, hb1⟩; have X1 := block_below (at_a1 w _ _ _) hb1; obtain ⟨a0, a1, a2, a3, a4, a5⟩ := cells6 (X1); obtain ⟨af0, af1, af2, af3, af4, af5⟩ := frees6 (X1); have F1 := Lib.hid (block_below (at_a2 w _ _ _) hb1); obtain ⟨z0, z1⟩ := cells2 (F1.out); obtain ⟨zf0, zf1⟩ := frees2 (F1.out); have K1 := Lib.hid (below_a2 hb1); clear hb1 X1) | (go_at_call 109; (with_reducible refine (NM.out _).mono ?_); rintro e wx ⟨rfl, rfl⟩))
          exact end_cell rfl rfl rfl (store2 F1.out rfl) Try.underlying31 rfl (by kernel_rfl) ⟨by rw [HC.out]; rfl, (K1.out.setCell (by simp) _).setCell (by simp) _⟩
        · skip
          go_wp2_with (first | (go_at_call 108; (with_reducible refine (GR.out _).mono ?_); rintro e w1 ⟨rfl, hb1⟩; have X1 := block_below (at_a1 w _ _ _) hb1; obtain ⟨a0, a1, a2, a3, a4, a5⟩ := cells6 (X1); obtain ⟨af0, af1, af2, af3, af4, af5⟩ := frees6 (X1); have F1 := Lib.hid (block_below (at_a2 w _ _ _) hb1); obtain ⟨z0, z1⟩ := cells2 (F1.out); obtain ⟨zf0, zf1⟩ := frees2 (F1.out); have K1 := Lib.hid (below_a2 hb1); clear hb1 X1) | (go_at_call 109; (with_reducible refine (NM.out _).mono ?_); rintro e wx ⟨rfl, rfl⟩))
          exact end_cell rfl rfl rfl (store2 F1.out rfl) Try.underlying31 rfl (by kernel_rfl) ⟨by rw [HC.out]; rfl, (K1.out.setCell (by simp) _).setCell (by simp) _⟩
  · rcases ts with _ | _
    · rcases tf with _ | _
      · go_enter Try.func76, Try.ntmps76
        rcases tg with _ | _
        · rcases nm with _ | _
          · clear GR
            go_wp2_with (first | (go_at_call 109; (with_reducible refine (NM.out _).mono ?_); rintro e wx ⟨rfl, rfl⟩))
            exact end_cell rfl rfl rfl (at_a2 w _ _ _) Try.underlying31 rfl (by kernel_rfl) ⟨by rw [HC.out]; rfl, ((Below.refl _ _).alloc (Nat.le_refl _) _).alloc (by simp) _⟩
          · clear GR
            go_wp2_with (first | (go_at_call 109; (with_reducible refine (NM.out _).mono ?_); rintro e wx ⟨rfl, rfl⟩))
            exact end_cell rfl rfl rfl (at_a2 w _ _ _) Try.underlying31 rfl (by kernel_rfl) ⟨by rw [HC.out]; rfl, ((Below.refl _ _).alloc (Nat.le_refl _) _).alloc (by simp) _⟩
        · rcases gp with _ | _
          · rcases nm with _ | _
            · skip
              go_wp2_with (first | (go_at_call 108; (with_reducible refine (GR.out _).mono ?_); rintro e w1 ⟨rfl, hb1⟩; have X1 := block_below (at_a1 w _ _ _) hb1; obtain ⟨a0, a1, a2, a3, a4, a5⟩ := cells6 (X1); obtain ⟨af0, af1, af2, af3, af4, af5⟩ := frees6 (X1); have F1 := Lib.hid (block_below (at_a2 w _ _ _) hb1); obtain ⟨z0, z1⟩ := cells2 (F1.out); obtain ⟨zf0, zf1⟩ := frees2 (F1.out); have K1 := Lib.hid (below_a2 hb1); clear hb1 X1) | (go_at_call 109; (with_reducible refine (NM.out _).mono ?_); rintro e wx ⟨rfl, rfl⟩))
              exact end_cell rfl rfl rfl (store2 F1.out rfl) Try.underlying31 rfl (by kernel_rfl) ⟨by rw [HC.out]; rfl, (K1.out.setCell (by simp) _).setCell (by simp) _⟩
            · skip
              go_wp2_with (first | (go_at_call 108; (with_reducible refine (GR.out _).mono ?_); rintro e w1 ⟨rfl, hb1⟩; have X1 := block_below (at_a1 w _ _ _) hb1; obtain ⟨a0, a1, a2, a3, a4, a5⟩ := cells6 (X1); obtain ⟨af0, af1, af2, af3, af4, af5⟩ := frees6 (X1); have F1 := Lib.hid (block_below (at_a2 w _ _ _) hb1); obtain ⟨z0, z1⟩ := cells2 (F1.out); obtain ⟨zf0, zf1⟩ := frees2 (F1.out); have K1 := Lib.hid (below_a2 hb1); clear hb1 X1) | (go_at_call 109; (with_reducible refine (NM.out _).mono ?_); rintro e wx ⟨rfl, rfl⟩))
              exact end_cell rfl rfl rfl (store2 F1.out rfl) Try.underlying31 rfl (by kernel_rfl) ⟨by rw [HC.out]; rfl, (K1.out.setCell (by simp) _).setCell (by simp) _⟩
          · rcases nm with _ | _
            · skip
              go_wp2_with (first | (go_at_call 108; (with_reducible refine (GR.out _).mono ?_); rintro e w1 ⟨rfl, hb1⟩; have X1 := block_below (at_a1 w _ _ _) hb1; obtain ⟨a0, a1, a2, a3, a4, a5⟩ := cells6 (X1); obtain ⟨af0, af1, af2, af3, af4, af5⟩ := frees6 (X1); have F1 := Lib.hid (block_below (at_a2 w _ _ _) hb1); obtain ⟨z0, z1⟩ := cells2 (F1.out); obtain ⟨zf0, zf1⟩ := frees2 (F1.out); have K1 := Lib.hid (below_a2 hb1); clear hb1 X1) | (go_at_call 109; (with_reducible refine (NM.out _).mono ?_); rintro e wx ⟨rfl, rfl⟩))
              exact end_cell rfl rfl rfl (store2 F1.out rfl) Try.underlying31 rfl (by kernel_rfl) ⟨by rw [HC.out]; rfl, (K1.out.setCell (by simp) _).setCell (by simp) _⟩
            · skip
              go_wp2_with (first | (go_at_call 108; (with_reducible refine (GR.out _).mono ?_); rintro e w1 ⟨rfl, hb1⟩; have X1 := block_below (at_a1 w _ _ _) hb1; obtain ⟨a0, a1, a2, a3, a4, a5⟩ := cells6 (X1); obtain ⟨af0, af1, af2, af3, af4, af5⟩ := frees6 (X1); have F1 := Lib.hid (block_below (at_a2 w _ _ _) hb1); obtain ⟨z0, z1⟩ := cells2 (F1.out); obtain ⟨zf0, zf1⟩ := frees2 (F1.out); have K1 := Lib.hid (below_a2 hb1); clear hb1 X1) | (go_at_call 109; (with_reducible refine (NM.out _).mono ?_); rintro e wx ⟨rfl, rfl⟩))
              exact end_cell rfl rfl rfl (store2 F1.out rfl) Try.underlying31 rfl (by kernel_rfl) ⟨by rw [HC.out]; rfl, (K1.out.setCell (by simp) _).setCell (by simp) _⟩
      · go_enter Try.func76, Try.ntmps76
        rcases tg with _ | _
        · rcases nm with _ | _
          · clear GR
            go_wp2_with (first | (go_at_call 109; (with_reducible refine (NM.out _).mono ?_); rintro e wx ⟨rfl, rfl⟩))
            exact end_cell rfl rfl rfl (at_a2 w _ _ _) Try.underlying31 rfl (by kernel_rfl) ⟨by rw [HC.out]; rfl, ((Below.refl _ _).alloc (Nat.le_refl _) _).alloc (by simp) _⟩
          · clear GR
            go_wp2_with (first | (go_at_call 109; (with_reducible refine (NM.out _).mono ?_); rintro e wx ⟨rfl, rfl⟩))
            exact end_cell rfl rfl rfl (at_a2 w _ _ _) Try.underlying31 rfl (by kernel_rfl) ⟨by rw [HC.out]; rfl, ((Below.refl _ _).alloc (Nat.le_refl _) _).alloc (by simp) _⟩
        · rcases gp with _ | _
          · rcases nm with _ | _
            · skip
              go_wp2_with (first | (go_at_call 108; (with_reducible refine (GR.out _).mono ?_); rintro e w1 ⟨rfl, hb1⟩; have X1 := block_below (at_a1 w _ _ _) hb1; obtain ⟨a0, a1, a2, a3, a4, a5⟩ := cells6 (X1); obtain ⟨af0, af1, af2, af3, af4, af5⟩ := frees6 (X1); have F1 := Lib.hid (block_below (at_a2 w _ _ _) hb1); obtain ⟨z0, z1⟩ := cells2 (F1.out); obtain ⟨zf0, zf1⟩ := frees2 (F1.out); have K1 := Lib.hid (below_a2 hb1); clear hb1 X1) | (go_at_call 109; (with_reducible refine (NM.out _).mono ?_); rintro e wx ⟨rfl, rfl⟩))
              exact end_cell rfl rfl rfl (store2 F1.out rfl) Try.underlying31 rfl (by kernel_rfl) ⟨by rw [HC.out]; rfl, (K1.out.setCell (by simp) _).setCell (by simp) _⟩
            · skip
              go_wp2_with (first | (go_at_call 108; (with_reducible refine (GR.out _).mono ?_); rintro e w1 ⟨rfl, hb1⟩; have X1 := block_below (at_a1 w _ _ _) hb1; obtain ⟨a0, a1, a2, a3, a4, a5⟩ := cells6 (X1); obtain ⟨af0, af1, af2, af3, af4, af5⟩ := frees6 (X1); have F1 := Lib.hid (block_below (at_a2 w _ _ _) hb1); obtain ⟨z0, z1⟩ := cells2 (F1.out); obtain ⟨zf0, zf1⟩ := frees2 (F1.out); have K1 := Lib.hid (below_a2 hb1); clear hb1 X1) | (go_at_call 109; (with_reducible refine (NM.out _).mono ?_); rintro e wx ⟨rfl, rfl⟩))
              exact end_cell rfl rfl rfl (store2 F1.out rfl) Try.underlying31 rfl (by kernel_rfl) ⟨by rw [HC.out]; rfl, (K1.out.setCell (by simp) _).setCell (by simp) _⟩
          · rcases nm with _ | _
            · skip
              go_wp2_with (first | (go_at_call 108; (with_reducible refine (GR.out _).mono ?_); rintro e w1 ⟨rfl, hb1⟩; have X1 := block_below (at_a1 w _ _ _) hb1; obtain ⟨a0, a1, a2, a3, a4, a5⟩ := cells6 (X1); obtain ⟨af0, af1, af2, af3, af4, af5⟩ := frees6 (X1); have F1 := Lib.hid (block_below (at_a2 w _ _ _) hb1); obtain ⟨z0, z1⟩ := cells2 (F1.out); obtain ⟨zf0, zf1⟩ := frees2 (F1.out); have K1 := Lib.hid (below_a2 hb1); clear hb1 X1) | (go_at_call 109; (with_reducible refine (NM.out _).mono ?_); rintro e wx ⟨rfl, rfl⟩))
              exact end_cell rfl rfl rfl (store2 F1.out rfl) Try.underlying31 rfl (by kernel_rfl) ⟨by rw [HC.out]; rfl, (K1.out.setCell (by simp) _).setCell (by simp) _⟩
            · skip
              go_wp2_with (first | (go_at_call 108; (with_reducible refine (GR.out _).mono ?_); rintro e w1 ⟨rfl, hb1⟩; have X1 := block_below (at_a1 w _ _ _) hb1; obtain ⟨a0, a1, a2, a3, a4, a5⟩ := cells6 (X1); obtain ⟨af0, af1, af2, af3, af4, af5⟩ := frees6 (X1); have F1 := Lib.hid (block_below (at_a2 w _ _ _) hb1); obtain ⟨z0, z1⟩ := cells2 (F1.out); obtain ⟨zf0, zf1⟩ := frees2 (F1.out); have K1 := Lib.hid (below_a2 hb1); clear hb1 X1) | (go_at_call 109; (with_reducible refine (NM.out _).mono ?_); rintro e wx ⟨rfl, rfl⟩))
              exact end_cell rfl rfl rfl (store2 F1.out rfl) Try.underlying31 rfl (by kernel_rfl) ⟨by rw [HC.out]; rfl, (K1.out.setCell (by simp) _).setCell (by simp) _⟩
    · clear hf
      go_enter Try.func76, Try.ntmps76
      rcases tg with _ | _
      · rcases nm with _ | _
        · clear GR
          go_wp2_with (first | (go_at_call 109; (with_reducible refine (NM.out _).mono ?_); rintro e wx ⟨rfl, rfl⟩))
          exact end_cell rfl rfl rfl (at_a2 w _ _ _) Try.underlying31 rfl (by kernel_rfl) ⟨by rw [HC.out]; rfl, ((Below.refl _ _).alloc (Nat.le_refl _) _).alloc (by simp) _⟩
        · clear GR
          go_wp2_with (first | (go_at_call 109; (with_reducible refine (NM.out _).mono ?_); rintro e wx ⟨rfl, rfl⟩))
          exact end_cell rfl rfl rfl (at_a2 w _ _ _) Try.underlying31 rfl (by kernel_rfl) ⟨by rw [HC.out]; rfl, ((Below.refl _ _).alloc (Nat.le_refl _) _).alloc (by simp) _⟩
      · rcases gp with _ | _
        · rcases nm with _ | _
          · skip
            go_wp2_with (first | (go_at_call 108; (with_reducible refine (GR.out _).mono ?_); rintro e w1 ⟨rfl, hb1⟩; have X1 := block_below (at_a1 w _ _ _) hb1; obtain ⟨a0, a1, a2, a3, a4, a5⟩ := cells6 (X1); obtain ⟨af0, af1, af2, af3, af4, af5⟩ := frees6 (X1); have F1 := Lib.hid (block_below (at_a2 w _ _ _) hb1); obtain ⟨z0, z1⟩ := cells2 (F1.out); obtain ⟨zf0, zf1⟩ := frees2 (F1.out); have K1 := Lib.hid (below_a2 hb1); clear hb1 X1) | (go_at_call 109; (with_reducible refine (NM.out _).mono ?_); rintro e wx ⟨rfl, rfl⟩))
            exact end_cell rfl rfl rfl (store2 F1.out rfl) Try.underlying31 rfl (by kernel_rfl) ⟨by rw [HC.out]; rfl, (K1.out.setCell (by simp) _).setCell (by simp) _⟩
          · skip
            go_wp2_with (first | (go_at_call 108; (with_reducible refine (GR.out _).mono ?_); rintro e w1 ⟨rfl, hb1⟩; have X1 := block_below (at_a1 w _ _ _) hb1; obtain ⟨a0, a1, a2, a3, a4, a5⟩ := cells6 (X1); obtain ⟨af0, af1, af2, af3, af4, af5⟩ := frees6 (X1); have F1 := Lib.hid (block_below (at_a2 w _ _ _) hb1); obtain ⟨z0, z1⟩ := cells2 (F1.out); obtain ⟨zf0, zf1⟩ := frees2 (F1.out); have K1 := Lib.hid (below_a2 hb1); clear hb1 X1) | (go_at_call 109; (with_reducible refine (NM.out _).mono ?_); rintro e wx ⟨rfl, rfl⟩))
            exact end_cell rfl rfl rfl (store2 F1.out rfl) Try.underlying31 rfl (by kernel_rfl) ⟨by rw [HC.out]; rfl, (K1.out.setCell (by simp) _).setCell (by simp) _⟩
        · rcases nm with _ | _
          · skip
            go_wp2_with (first | (go_at_call 108; (with_reducible refine (GR.out _).mono ?_); rintro e w1 ⟨rfl, hb1⟩; have X1 := block_below (at_a1 w _ _ _) hb1; obtain ⟨a0, a1, a2, a3, a4, a5⟩ := cells6 (X1); obtain ⟨af0, af1, af2, af3, af4, af5⟩ := frees6 (X1); have F1 := Lib.hid (block_below (at_a2 w _ _ _) hb1); obtain ⟨z0, z1⟩ := cells2 (F1.out); obtain ⟨zf0, zf1⟩ := frees2 (F1.out); have K1 := Lib.hid (below_a2 hb1); clear hb1 X1) | (go_at_call 109; (with_reducible refine (NM.out _).mono ?_); rintro e wx ⟨rfl, rfl⟩))
            exact end_cell rfl rfl rfl (store2 F1.out rfl) Try.underlying31 rfl (by kernel_rfl) ⟨by rw [HC.out]; rfl, (K1.out.setCell (by simp) _).setCell (by simp) _⟩
          · skip
            go_wp2_with (first | (go_at_call 108; (with_reducible refine (GR.out _).mono ?_); rintro e w1 ⟨rfl, hb1⟩; have X1 := block_below (at_a1 w _ _ _) hb1; obtain ⟨a0, a1, a2, a3, a4, a5⟩ := cells6 (X1); obtain ⟨af0, af1, af2, af3, af4, af5⟩ := frees6 (X1); have F1 := Lib.hid (block_below (at_a2 w _ _ _) hb1); obtain ⟨z0, z1⟩ := cells2 (F1.out); obtain ⟨zf0, zf1⟩ := frees2 (F1.out); have K1 := Lib.hid (below_a2 hb1); clear hb1 X1) | (go_at_call 109; (with_reducible refine (NM.out _).mono ?_); rintro e wx ⟨rfl, rfl⟩))
            exact end_cell rfl rfl rfl (store2 F1.out rfl) Try.underlying31 rfl (by kernel_rfl) ⟨by rw [HC.out]; rfl, (K1.out.setCell (by simp) _).setCell (by simp) _⟩
end Go.Proofs.Ytmnmonmbdgedbaa
