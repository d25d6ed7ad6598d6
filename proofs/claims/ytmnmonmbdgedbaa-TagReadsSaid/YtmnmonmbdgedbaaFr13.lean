/- Layer 13 (frame): the law's Of, the document's Check, walked (printed by gen_fr13.py). -/
import Derived.Test.YtmnmonmbdgedbaaFr12
namespace Go.Proofs.Ytmnmonmbdgedbaa
open Go.RowKit
set_option linter.unusedVariables false
set_option linter.unusedSimpArgs false

/-- a frame as the document has it -/
def rfV (f : Fr) : Value := .agg #[.string ⟨f.id.toArray⟩, .int .i64 f.st.toNat, .int .i64 f.fm.toNat, .int .i64 f.gr.toNat, .string ⟨f.bo.toArray⟩, .int .i64 f.pl]
set_option maxHeartbeats 1000000 in
set_option maxRecDepth 100000 in
theorem fof_any (f : Fr) (w : World) : Calls Try.prog 65 #[frV f] w fun e w' => e = .returned (rfV f) ∧ Below w.heap.size w w' := by
  obtain ⟨id, st, fm, gr, bo, pl⟩ := f
  have b1 := byte_le st
  have b2 := byte_le fm
  have b3 := byte_le gr
  rw [show frV ⟨id, st, fm, gr, bo, pl⟩ = Value.agg #[.string ⟨id.toArray⟩, .int .u8 st.toNat, .int .u8 fm.toNat, .int .u8 gr.toNat, .string ⟨bo.toArray⟩, .int .i64 pl] from rfl,
    show rfV ⟨id, st, fm, gr, bo, pl⟩ = Value.agg #[.string ⟨id.toArray⟩, .int .i64 st.toNat, .int .i64 fm.toNat, .int .i64 gr.toNat, .string ⟨bo.toArray⟩, .int .i64 pl] from rfl]
  go_enter Try.func65, Try.ntmps65
  go_wp2
  exact end_cell rfl rfl rfl (at_a2 w _ _ _) Try.underlying100 rfl (by kernel_rfl) ⟨rfl, ((Below.refl _ _).alloc (Nat.le_refl _) _).alloc (by simp) _⟩
theorem nz_yes {c : UInt8} (h : nz c = true) : (0 : Int) < c.toNat ∧ 0 < c.toNat := by unfold nz at h; simp at h; omega
theorem nz_no {c : UInt8} (h : nz c = false) : ¬ (0 : Int) < c.toNat ∧ ¬ 0 < c.toNat := by unfold nz at h; simp at h; omega
def RCheck (c : Int) (w : World) (e : Ending) (w' : World) : Prop := e = .returned (.int .i64 c) ∧ Below w.heap.size w w'
set_option maxHeartbeats 4000000 in
set_option maxRecDepth 100000 in
theorem rcheck_core (v : Int) (id : List UInt8) (st fm gr : UInt8) (bo : List UInt8) (pl : Int) (gp nm tv ts tf tg : Bool) (c : Int) (w : World)
    (GR : Hid (∀ w, Calls Try.prog 107 #[.int .i64 v, .int .i64 fm.toNat] w fun e w' => e = .returned (.bool gp) ∧ w = w'))
    (NM : Hid (∀ w, Calls Try.prog 106 #[.int .i64 v, .string ⟨id.toArray⟩] w fun e w' => e = .returned (.bool nm) ∧ w = w'))
    (hv : (v == 2) = tv) (hs : nz st = ts) (hf : nz fm = tf) (hg : nz gr = tg)
    (HC : Hid (c = if (nm && (!(tv && (ts || tf)) && !(tg && !gp))) = true then 0 else 5)) :
    Calls Try.prog 73 #[.int .i64 v, .agg #[.string ⟨id.toArray⟩, .int .i64 st.toNat, .int .i64 fm.toNat, .int .i64 gr.toNat, .string ⟨bo.toArray⟩, .int .i64 pl]] w (RCheck c w) := by
  rcases nm with _ | _
  · have HC := Lib.hid (show c = 5 by rw [HC.out]; simp)
    clear hv hs hf hg
    go_enter Try.func73, Try.ntmps73
    go_wp2_with (first | (go_at_call 106; (with_reducible refine (NM.out _).mono ?_); rintro e wx ⟨rfl, rfl⟩) | (go_at_call 107; (with_reducible refine (GR.out _).mono ?_); rintro e wx ⟨rfl, rfl⟩))
    go_ret
    exact ⟨by rw [HC.out]; rfl, (Below.refl _ _).alloc (Nat.le_refl _) _⟩
  · rcases tv with _ | _
    · clear hs hf
      rcases tg with _ | _
      · obtain ⟨g9, g9n⟩ := nz_no hg
        clear hg
        go_enter Try.func73, Try.ntmps73
        go_wp2_with (first | (go_at_call 106; (with_reducible refine (NM.out _).mono ?_); rintro e wx ⟨rfl, rfl⟩) | (go_at_call 107; (with_reducible refine (GR.out _).mono ?_); rintro e wx ⟨rfl, rfl⟩))
        go_ret
        exact ⟨by rw [HC.out]; rfl, (Below.refl _ _).alloc (Nat.le_refl _) _⟩
      · obtain ⟨g9, g9n⟩ := nz_yes hg
        clear hg
        rcases gp with _ | _
        · skip
          go_enter Try.func73, Try.ntmps73
          go_wp2_with (first | (go_at_call 106; (with_reducible refine (NM.out _).mono ?_); rintro e wx ⟨rfl, rfl⟩) | (go_at_call 107; (with_reducible refine (GR.out _).mono ?_); rintro e wx ⟨rfl, rfl⟩))
          go_ret
          exact ⟨by rw [HC.out]; rfl, (Below.refl _ _).alloc (Nat.le_refl _) _⟩
        · skip
          go_enter Try.func73, Try.ntmps73
          go_wp2_with (first | (go_at_call 106; (with_reducible refine (NM.out _).mono ?_); rintro e wx ⟨rfl, rfl⟩) | (go_at_call 107; (with_reducible refine (GR.out _).mono ?_); rintro e wx ⟨rfl, rfl⟩))
          go_ret
          exact ⟨by rw [HC.out]; rfl, (Below.refl _ _).alloc (Nat.le_refl _) _⟩
    · rcases ts with _ | _
      · obtain ⟨g1, g1n⟩ := nz_no hs
        clear hs
        rcases tf with _ | _
        · obtain ⟨g2, g2n⟩ := nz_no hf
          clear hf
          rcases tg with _ | _
          · obtain ⟨g9, g9n⟩ := nz_no hg
            clear hg
            go_enter Try.func73, Try.ntmps73
            go_wp2_with (first | (go_at_call 106; (with_reducible refine (NM.out _).mono ?_); rintro e wx ⟨rfl, rfl⟩) | (go_at_call 107; (with_reducible refine (GR.out _).mono ?_); rintro e wx ⟨rfl, rfl⟩))
            go_ret
            exact ⟨by rw [HC.out]; rfl, (Below.refl _ _).alloc (Nat.le_refl _) _⟩
          · obtain ⟨g9, g9n⟩ := nz_yes hg
            clear hg
            rcases gp with _ | _
            · skip
              go_enter Try.func73, Try.ntmps73
              go_wp2_with (first | (go_at_call 106; (with_reducible refine (NM.out _).mono ?_); rintro e wx ⟨rfl, rfl⟩) | (go_at_call 107; (with_reducible refine (GR.out _).mono ?_); rintro e wx ⟨rfl, rfl⟩))
              go_ret
              exact ⟨by rw [HC.out]; rfl, (Below.refl _ _).alloc (Nat.le_refl _) _⟩
            · skip
              go_enter Try.func73, Try.ntmps73
              go_wp2_with (first | (go_at_call 106; (with_reducible refine (NM.out _).mono ?_); rintro e wx ⟨rfl, rfl⟩) | (go_at_call 107; (with_reducible refine (GR.out _).mono ?_); rintro e wx ⟨rfl, rfl⟩))
              go_ret
              exact ⟨by rw [HC.out]; rfl, (Below.refl _ _).alloc (Nat.le_refl _) _⟩
        · obtain ⟨g2, g2n⟩ := nz_yes hf
          clear hf
          rcases tg with _ | _
          · obtain ⟨g9, g9n⟩ := nz_no hg
            clear hg
            go_enter Try.func73, Try.ntmps73
            go_wp2_with (first | (go_at_call 106; (with_reducible refine (NM.out _).mono ?_); rintro e wx ⟨rfl, rfl⟩) | (go_at_call 107; (with_reducible refine (GR.out _).mono ?_); rintro e wx ⟨rfl, rfl⟩))
            go_ret
            exact ⟨by rw [HC.out]; rfl, (Below.refl _ _).alloc (Nat.le_refl _) _⟩
          · obtain ⟨g9, g9n⟩ := nz_yes hg
            clear hg
            rcases gp with _ | _
            · skip
              go_enter Try.func73, Try.ntmps73
              go_wp2_with (first | (go_at_call 106; (with_reducible refine (NM.out _).mono ?_); rintro e wx ⟨rfl, rfl⟩) | (go_at_call 107; (with_reducible refine (GR.out _).mono ?_); rintro e wx ⟨rfl, rfl⟩))
              go_ret
              exact ⟨by rw [HC.out]; rfl, (Below.refl _ _).alloc (Nat.le_refl _) _⟩
            · skip
              go_enter Try.func73, Try.ntmps73
              go_wp2_with (first | (go_at_call 106; (with_reducible refine (NM.out _).mono ?_); rintro e wx ⟨rfl, rfl⟩) | (go_at_call 107; (with_reducible refine (GR.out _).mono ?_); rintro e wx ⟨rfl, rfl⟩))
              go_ret
              exact ⟨by rw [HC.out]; rfl, (Below.refl _ _).alloc (Nat.le_refl _) _⟩
      · obtain ⟨g1, g1n⟩ := nz_yes hs
        clear hs hf
        rcases tg with _ | _
        · obtain ⟨g9, g9n⟩ := nz_no hg
          clear hg
          go_enter Try.func73, Try.ntmps73
          go_wp2_with (first | (go_at_call 106; (with_reducible refine (NM.out _).mono ?_); rintro e wx ⟨rfl, rfl⟩) | (go_at_call 107; (with_reducible refine (GR.out _).mono ?_); rintro e wx ⟨rfl, rfl⟩))
          go_ret
          exact ⟨by rw [HC.out]; rfl, (Below.refl _ _).alloc (Nat.le_refl _) _⟩
        · obtain ⟨g9, g9n⟩ := nz_yes hg
          clear hg
          rcases gp with _ | _
          · skip
            go_enter Try.func73, Try.ntmps73
            go_wp2_with (first | (go_at_call 106; (with_reducible refine (NM.out _).mono ?_); rintro e wx ⟨rfl, rfl⟩) | (go_at_call 107; (with_reducible refine (GR.out _).mono ?_); rintro e wx ⟨rfl, rfl⟩))
            go_ret
            exact ⟨by rw [HC.out]; rfl, (Below.refl _ _).alloc (Nat.le_refl _) _⟩
          · skip
            go_enter Try.func73, Try.ntmps73
            go_wp2_with (first | (go_at_call 106; (with_reducible refine (NM.out _).mono ?_); rintro e wx ⟨rfl, rfl⟩) | (go_at_call 107; (with_reducible refine (GR.out _).mono ?_); rintro e wx ⟨rfl, rfl⟩))
            go_ret
            exact ⟨by rw [HC.out]; rfl, (Below.refl _ _).alloc (Nat.le_refl _) _⟩
theorem rcheck_any (v : Int) (f : Fr) (w : World) (hl : f.id.length ≤ 1000000000) : Calls Try.prog 73 #[.int .i64 v, rfV f] w (RCheck (checkF v f) w) := by
  refine rcheck_core v f.id f.st f.fm f.gr f.bo f.pl _ _ _ _ _ _ _ w (Lib.hid fun w => rgrouped_any v f.fm w) (Lib.hid fun w => rnamed_any v f.id w hl) rfl rfl rfl rfl (Lib.hid ?_)
  unfold checkF okF wfB wgB
  rfl
theorem fr_add_run (x y : List UInt8) (h : x.length + y.length ≤ 8388608) : ∃ z, z = x ++ y ∧ ∀ w : World, (Op.stringOp .add ⟨x.toArray⟩ ⟨y.toArray⟩).run Try.prog w = .ok (.string ⟨z.toArray⟩) w :=
  ⟨_, rfl, fun w => run_string_add_lists w x y (by omega) (by omega)⟩
theorem keep3 {V W w : World} {b : Nat} {v0 v1 v2 : Value} (hb : Below V.heap.size V W) (k : Below W.heap.size W w) (hx : b < V.heap.size)
    (h : V.cell? ⟨b, 0, none⟩ = some v0 ∧ V.cell? ⟨b, 1, none⟩ = some v1 ∧ V.cell? ⟨b, 2, none⟩ = some v2) : w.cell? ⟨b, 0, none⟩ = some v0 ∧ w.cell? ⟨b, 1, none⟩ = some v1 ∧ w.cell? ⟨b, 2, none⟩ = some v2 := by
  have hb2 := nextB hb k
  have e : ∀ j, w.cell? ⟨b, j, none⟩ = V.cell? ⟨b, j, none⟩ := fun j => hb2.cell (p := ⟨b, j, none⟩) hx
  rw [e, e, e]
  exact h
end Go.Proofs.Ytmnmonmbdgedbaa
