/- Layer 15 (tag): the law's Same, walked, where it says yes. -/
import Derived.Test.YtmnmonmbdgedbaaTgO
import Derived.BigRegion
namespace Go.Proofs.Ytmnmonmbdgedbaa
open Go.RowKit
set_option linter.unusedVariables false
set_option linter.unusedSimpArgs false

theorem rfs_cells {w : World} {a : Option Addr} {n : Nat} {L : List Fr} (h : RecsAt w a n 6 (L.map rfR)) (k : Nat) (hk : k < L.length) : ∃ b off, a = some ⟨b, off, none⟩ ∧ b < w.heap.size ∧
    w.cell? ⟨b, off + k * 6, none⟩ = some (.string ⟨L[k].id.toArray⟩) ∧ w.cell? ⟨b, off + k * 6 + 1, none⟩ = some (.int .i64 L[k].st.toNat) ∧ w.cell? ⟨b, off + k * 6 + 2, none⟩ = some (.int .i64 L[k].fm.toNat) ∧
    w.cell? ⟨b, off + k * 6 + 3, none⟩ = some (.int .i64 L[k].gr.toNat) ∧ w.cell? ⟨b, off + k * 6 + 4, none⟩ = some (.string ⟨L[k].bo.toArray⟩) ∧ w.cell? ⟨b, off + k * 6 + 5, none⟩ = some (.int .i64 L[k].pl) := by
  have hn := h.1
  rcases h.2.2 with h0 | ⟨b, off, ha, hb, hc⟩
  · simp at hn; omega
  · have hk' : k < (L.map rfR).length := by simpa using hk
    have key : ∀ j, j < 6 → w.cell? ⟨b, off + k * 6 + j, none⟩ = (rfR L[k])[j]? := fun j hj => by
      have := hc k hk' j hj
      rw [List.getElem_map] at this
      rw [← this]
      congr 2
      omega
    exact ⟨b, off, ha, hb, key 0 (by decide), key 1 (by decide), key 2 (by decide), key 3 (by decide), key 4 (by decide), key 5 (by decide)⟩
def zeroPl' (f : Fr) : Fr := { f with pl := 0 }
set_option maxHeartbeats 4000000 in
set_option maxRecDepth 100000 in
theorem tsame_yes (v rv fl : Int) (a1 a2 : Option Addr) (n c1 c2 : Nat) (L1 L2 : List Fr) (pb : Bool) (w : World) (h1 : Hid (RecsAt w a1 n 6 (L1.map rfR))) (h2 : Hid (RecsAt w a2 n 6 (L2.map rfR))) (hn : n ≤ 1000000)
    (he : Hid (L1.map (fun f => if pb = true then f else zeroPl' f) = L2.map (fun f => if pb = true then f else zeroPl' f))) :
    Calls Try.prog 19 #[.agg #[.int .i64 v, .int .i64 rv, .int .i64 fl, .slice a1 n c1], .agg #[.int .i64 v, .int .i64 rv, .int .i64 fl, .slice a2 n c2], .bool pb] w fun e w' => e = .returned (.bool true) ∧ Below w.heap.size w w' := by
  have HL1 : Hid (L1.length = n) := Lib.hid (by simpa using h1.out.1)
  have HL2 : Hid (L2.length = n) := Lib.hid (by simpa using h2.out.1)
  have hni : (n : Int) ≤ 1000000 := by omega
  go_enter Try.func19, Try.ntmps19
  go_upto_region 3 with (fail)
  have X := Lib.hid (at_a1 w #[.int .i64 v, .int .i64 rv, .int .i64 fl, .slice a1 n c1] 40 (.cells #[.int .i64 v, .int .i64 rv, .int .i64 fl, .slice a2 n c2] 40))
  have Y := Lib.hid (at_a2 w #[.int .i64 v, .int .i64 rv, .int .i64 fl, .slice a2 n c2] 40 (.cells #[.int .i64 v, .int .i64 rv, .int .i64 fl, .slice a1 n c1] 40))
  have K : Hid (Below w.heap.size w ((w.alloc (.cells #[.int .i64 v, .int .i64 rv, .int .i64 fl, .slice a1 n c1] 40)).alloc (.cells #[.int .i64 v, .int .i64 rv, .int .i64 fl, .slice a2 n c2] 40))) := Lib.hid (((Below.refl _ _).alloc (Nat.le_refl _) _).alloc (by simp) _)
  replace h1 := Lib.hid (h1.out.below K.out)
  replace h2 := Lib.hid (h2.out.below K.out)
  generalize (w.alloc (.cells #[.int .i64 v, .int .i64 rv, .int .i64 fl, .slice a1 n c1] 40)).alloc (.cells #[.int .i64 v, .int .i64 rv, .int .i64 fl, .slice a2 n c2] 40) = w0 at *
  generalize hxa : w.heap.size = xa at *
  obtain ⟨xb, hxb⟩ : ∃ xb, xb = xa + 1 := ⟨_, rfl⟩
  rw [← hxb]
  replace Y : Hid (w0.heap[xb]? = some (.cells #[.int .i64 v, .int .i64 rv, .int .i64 fl, .slice a2 n c2] 40 (0, 0))) := Lib.hid (by rw [hxb]; exact Y.out)
  have HXA := Lib.hid hxa
  clear hxb hxa
  obtain ⟨x0, x1, x2, x3⟩ := cells4 (X.out)
  obtain ⟨y0, y1, y2, y3⟩ := cells4 (Y.out)
  go_wp2
  clear x0 x1 x2 x3 y0 y1 y2 y3
  go_loopw [41] (fun i wr => ∃ (j : Nat), j ≤ n ∧ i = .int .i64 j ∧ Hid (Below w0.heap.size w0 wr)) (fun i _ => n - (intOf i).toNat)
  case atStart => exact ⟨0, by omega, rfl, Lib.hid (Below.refl _ _)⟩
  case round =>
    obtain ⟨j, hj, rfl, HB⟩ := hrel
    replace X := Lib.hid (block_below X.out HB.out)
    replace Y := Lib.hid (block_below Y.out HB.out)
    replace K := Lib.hid (K.out.trans (HB.out.mono (by have := K.out.size; have := HXA.out; omega)))
    replace h1 := Lib.hid (h1.out.below HB.out)
    replace h2 := Lib.hid (h2.out.below HB.out)
    have hxw := (Array.getElem?_eq_some_iff.1 X.out).1
    have hyw := (Array.getElem?_eq_some_iff.1 Y.out).1
    have hbs := HB.out.size
    obtain ⟨x0, x1, x2, x3⟩ := cells4 (X.out)
    obtain ⟨y0, y1, y2, y3⟩ := cells4 (Y.out)
    by_cases hlt : j < n
    · have g0 : (j : Int) < n := by omega
      have hj1 : j < L1.length := by rw [HL1.out]; exact hlt
      have hj2 : j < L2.length := by rw [HL2.out]; exact hlt
      obtain ⟨b, off, rfl, hbb, c0, c1', c2', c3, c4, c5⟩ := rfs_cells h1.out j hj1
      obtain ⟨b2, off2, rfl, hbb2, d0, d1, d2, d3, d4, d5⟩ := rfs_cells h2.out j hj2
      have hq : (L1.map (fun f => if pb = true then f else zeroPl' f))[j]'(by simpa using hj1) = (L2.map (fun f => if pb = true then f else zeroPl' f))[j]'(by simpa using hj2) := by simp only [he.out]
      rw [List.getElem_map, List.getElem_map] at hq
      generalize L1[j] = f at *
      generalize L2[j] = g at *
      obtain ⟨id, st, fm, gr, bo, p⟩ := f
      obtain ⟨id2, st2, fm2, gr2, bo2, r⟩ := g
      rcases pb with _ | _
      · simp only [Bool.false_eq_true, if_false, zeroPl', Fr.mk.injEq] at hq
        obtain ⟨rfl, rfl, rfl, rfl, rfl, _⟩ := hq
        go_upto_region 6 with (fail)
        go_region
        all_goals (go_wp2; refine ⟨⟨j + 1, by omega, by simp, Lib.hid ?_⟩, by simp [intOf]; omega⟩)
        all_goals exact ((HB.out.alloc HB.out.size _).alloc (by simp; omega) _).drew
      · simp only [if_true, Fr.mk.injEq] at hq
        obtain ⟨rfl, rfl, rfl, rfl, rfl, rfl⟩ := hq
        go_upto_region 6 with (fail)
        go_region
        all_goals (go_wp2; refine ⟨⟨j + 1, by omega, by simp, Lib.hid ?_⟩, by simp [intOf]; omega⟩)
        all_goals exact ((HB.out.alloc HB.out.size _).alloc (by simp; omega) _).drew
    · have g0 : ¬ (j : Int) < n := by omega
      go_wp2
      go_ret
      exact ⟨rfl, by rw [HXA.out]; exact K.out⟩
end Go.Proofs.Ytmnmonmbdgedbaa
