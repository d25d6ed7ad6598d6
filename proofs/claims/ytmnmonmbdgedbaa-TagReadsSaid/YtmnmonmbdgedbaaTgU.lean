/- Layer 15 (tag): the law's Of and Same, walked. | Layer 15 (tag): the law's Same, walked, where it says yes. -/
import Derived.Test.YtmnmonmbdgedbaaTg6
import Derived.Laws.StructEq
import Derived.Deep.RegionLaw
import Derived.BigRegion

namespace Go.Proofs.Ytmnmonmbdgedbaa
open Go.RowKit
set_option linter.unusedVariables false
set_option linter.unusedSimpArgs false

/-- a frame as the document has it: its cells -/
def rfR (f : Fr) : List Value := [.string ⟨f.id.toArray⟩, .int .i64 f.st.toNat, .int .i64 f.fm.toNat, .int .i64 f.gr.toNat, .string ⟨f.bo.toArray⟩, .int .i64 f.pl]
theorem info_rframe : (Try.prog.info? 100).map (fun i => (i.zero, i.size, i.bytes)) = some (some (.agg #[.string ⟨#[]⟩, .int .i64 0, .int .i64 0, .int .i64 0, .string ⟨#[]⟩, .int .i64 0]), 6, 64) := by kernel_rfl
theorem one_rfR (x : Fr) : ∀ u ∈ rfR x, u.oneCell' = true := by
  intro u hu
  simp only [rfR, List.mem_cons, List.not_mem_nil, or_false] at hu
  rcases hu with rfl | rfl | rfl | rfl | rfl | rfl <;> rfl
def TOf (v : Int) (rv fl : UInt8) (n : Nat) (fs : List Fr) (w : World) (e : Ending) (w' : World) : Prop :=
  ∃ a cap, e = .returned (.agg #[.int .i64 v, .int .i64 rv.toNat, .int .i64 fl.toNat, .slice a n cap]) ∧ RecsAt w' a n 6 (fs.map rfR) ∧ Below w.heap.size w w'
theorem tgo_recs_atv {w : World} {base e size n cap : Nat} {a : Option Addr} {L : List (List Value)} (h : Recs w base e size (.slice a n cap) L) : RecsAt w a n size L := by
  obtain ⟨a', cap', hv, _, hr⟩ := h.at
  obtain ⟨rfl, rfl, rfl⟩ : a = a' ∧ n = L.length ∧ cap = cap' := by simpa using hv
  exact hr
theorem tgo_grown {w wr w' : World} {v : Value} {B : Nat} (hB : Below B w wr) (hg : wr.grownBy w' v.ownBlock) (hv : ∀ k, v.ownBlock = some k → B ≤ k) (hs : B ≤ wr.heap.size) : Below B w w' := by
  refine ⟨hg.os.trans hB.os, hg.tape.trans hB.tape, hg.output.trans hB.output, Nat.le_trans hB.size hg.size, fun k hk => ?_⟩
  refine (hg.block k (Nat.lt_of_lt_of_le hk hs) ?_).trans (hB.block k hk)
  intro e
  have := hv k e.symm
  omega
set_option maxHeartbeats 4000000 in
set_option maxRecDepth 100000 in
theorem tof_any (v : Int) (rv fl : UInt8) (a : Option Addr) (n cap : Nat) (fs : List Fr) (w : World) (hs : Hid (RecsAt w a n 6 (fs.map frR))) (hn : n ≤ 1000000) :
    Calls Try.prog 20 #[.agg #[.int .i64 v, .int .u8 rv.toNat, .int .u8 fl.toNat, .slice a n cap]] w (TOf v rv fl n fs w) := by
  have HL : Hid (fs.length = n) := Lib.hid (by simpa using hs.out.1)
  have OF : Hid (∀ (f : Fr) (w : World), Calls Try.prog 65 #[.agg #[.string ⟨f.id.toArray⟩, .int .u8 f.st.toNat, .int .u8 f.fm.toNat, .int .u8 f.gr.toNat, .string ⟨f.bo.toArray⟩, .int .i64 f.pl]] w fun e w' => e = .returned (.agg #[.string ⟨f.id.toArray⟩, .int .i64 f.st.toNat, .int .i64 f.fm.toNat, .int .i64 f.gr.toNat, .string ⟨f.bo.toArray⟩, .int .i64 f.pl]) ∧ Below w.heap.size w w') := Lib.hid (fun f w => fof_any f w)
  have b1 := byte_le rv
  have b2 := byte_le fl
  have hni : (n : Int) ≤ 1000000 := by omega
  obtain ⟨xb, hxb⟩ : ∃ xb, xb = w.heap.size + 1 + 1 := ⟨_, rfl⟩
  obtain ⟨zb, hzb⟩ : ∃ zb, zb = w.heap.size + 1 := ⟨_, rfl⟩
  have X : Hid ((((w.alloc (.cells #[.int .i64 v, .int .u8 rv.toNat, .int .u8 fl.toNat, .slice a n cap] 26)).alloc (.cells #[.int .i64 0, .int .i64 0, .int .i64 0, .slice none 0 0] 40)).alloc (.cells #[.int .i64 v, .int .i64 rv.toNat, .int .i64 fl.toNat, .slice none 0 0] 40)).heap[xb]? = some (.cells #[.int .i64 v, .int .i64 rv.toNat, .int .i64 fl.toNat, .slice none 0 0] 40 (0, 0))) := Lib.hid (by have h := at_a0 ((w.alloc (.cells #[.int .i64 v, .int .u8 rv.toNat, .int .u8 fl.toNat, .slice a n cap] 26)).alloc (.cells #[.int .i64 0, .int .i64 0, .int .i64 0, .slice none 0 0] 40)) #[.int .i64 v, .int .i64 rv.toNat, .int .i64 fl.toNat, .slice none 0 0] 40; rw [hxb]; simpa using h)
  have Z : Hid ((((w.alloc (.cells #[.int .i64 v, .int .u8 rv.toNat, .int .u8 fl.toNat, .slice a n cap] 26)).alloc (.cells #[.int .i64 0, .int .i64 0, .int .i64 0, .slice none 0 0] 40)).alloc (.cells #[.int .i64 v, .int .i64 rv.toNat, .int .i64 fl.toNat, .slice none 0 0] 40)).heap[zb]? = some (.cells #[.int .i64 0, .int .i64 0, .int .i64 0, .slice none 0 0] 40 (0, 0))) := Lib.hid (by have h := at_a1 (w.alloc (.cells #[.int .i64 v, .int .u8 rv.toNat, .int .u8 fl.toNat, .slice a n cap] 26)) #[.int .i64 0, .int .i64 0, .int .i64 0, .slice none 0 0] 40 (.cells #[.int .i64 v, .int .i64 rv.toNat, .int .i64 fl.toNat, .slice none 0 0] 40); rw [hzb]; simpa using h)
  have B : Hid ((((w.alloc (.cells #[.int .i64 v, .int .u8 rv.toNat, .int .u8 fl.toNat, .slice a n cap] 26)).alloc (.cells #[.int .i64 0, .int .i64 0, .int .i64 0, .slice none 0 0] 40)).alloc (.cells #[.int .i64 v, .int .i64 rv.toNat, .int .i64 fl.toNat, .slice none 0 0] 40)).heap[w.heap.size]? = some (.cells #[.int .i64 v, .int .u8 rv.toNat, .int .u8 fl.toNat, .slice a n cap] 26 (0, 0))) := Lib.hid (block_below (at_a0 w #[.int .i64 v, .int .u8 rv.toNat, .int .u8 fl.toNat, .slice a n cap] 26) (((Below.refl _ _).alloc (Nat.le_refl _) _).alloc (by simp) _))
  have K : Hid (Below w.heap.size w (((w.alloc (.cells #[.int .i64 v, .int .u8 rv.toNat, .int .u8 fl.toNat, .slice a n cap] 26)).alloc (.cells #[.int .i64 0, .int .i64 0, .int .i64 0, .slice none 0 0] 40)).alloc (.cells #[.int .i64 v, .int .i64 rv.toNat, .int .i64 fl.toNat, .slice none 0 0] 40))) := Lib.hid ((((Below.refl _ _).alloc (Nat.le_refl _) _).alloc (by simp) _).alloc (by simp; omega) _)
  go_enter Try.func20, Try.ntmps20
  go_upto_region 2 with (fail)
  rw [← hxb, ← hzb]
  have hzx : zb < xb := by omega
  have hzw : w.heap.size < zb := by omega
  clear hxb hzb
  generalize ((w.alloc (.cells #[.int .i64 v, .int .u8 rv.toNat, .int .u8 fl.toNat, .slice a n cap] 26)).alloc (.cells #[.int .i64 0, .int .i64 0, .int .i64 0, .slice none 0 0] 40)).alloc (.cells #[.int .i64 v, .int .i64 rv.toNat, .int .i64 fl.toNat, .slice none 0 0] 40) = w0 at *
  obtain ⟨y0, y1, y2, y3⟩ := cells4 (B.out)
  go_wp2
  clear y0 y1 y2 y3
  go_loopw [21] (fun i wr => ∃ (j : Nat) (a2 : Option Addr) (cap2 : Nat), j ≤ n ∧ i = .int .i64 j ∧ Hid (wr.heap[zb]? = some (.cells #[.int .i64 0, .int .i64 0, .int .i64 0, .slice none 0 0] 40 (0, 0))) ∧ Hid (wr.heap[xb]? = some (.cells #[.int .i64 v, .int .i64 rv.toNat, .int .i64 fl.toNat, .slice a2 j cap2] 40 (0, 0))) ∧ Hid (Recs wr (xb + 1) 100 6 (.slice a2 j cap2) ((fs.take j).map rfR)) ∧ Hid (Below w.heap.size w wr)) (fun i _ => n - (intOf i).toNat)
  case atStart => exact ⟨0, none, 0, by omega, rfl, Z, X, Lib.hid (Recs.nil _ _ _ _), K⟩
  case round =>
    clear X K Z B
    obtain ⟨j, a2, cap2, hj, rfl, Z, X, V, K⟩ := hrel
    have HS := Lib.hid (hs.out.below K.out)
    have hxR := (Array.getElem?_eq_some_iff.1 X.out).1
    obtain ⟨x0, x1, x2, x3⟩ := cells4 (X.out)
    by_cases hlt : j < n
    · have g0 : (j : Int) < n := by omega
      have hjl : j < fs.length := by rw [HL.out]; exact hlt
      obtain ⟨b, off, rfl, hbb, c0, c1, c2, c3, c4, c5⟩ := frs_cells HS.out j hjl
      have HV := Lib.hid (show (fs.take (j + 1)).map rfR = (fs.take j).map rfR ++ [rfR fs[j]] by rw [List.take_succ_eq_append_getElem hjl, List.map_append]; rfl)
      have HL1 : Hid (((fs.take j).map rfR).length = j) := Lib.hid (by simp; omega)
      have HL2 : Hid (((fs.take j).map rfR ++ [rfR fs[j]]).length = j + 1) := Lib.hid (by rw [List.length_append, HL1.out]; rfl)
      generalize fs[j] = f at *
      go_upto_region 5 with (fail)
      have X1 := Lib.hid (block_below X.out ((Below.refl _ _).alloc (Nat.le_refl _) (.cells #[.string ⟨f.id.toArray⟩, .int .u8 f.st.toNat, .int .u8 f.fm.toNat, .int .u8 f.gr.toNat, .string ⟨f.bo.toArray⟩, .int .i64 f.pl] 47)))
      have Z1 := Lib.hid (block_below Z.out ((Below.refl _ _).alloc (Nat.le_refl _) (.cells #[.string ⟨f.id.toArray⟩, .int .u8 f.st.toNat, .int .u8 f.fm.toNat, .int .u8 f.gr.toNat, .string ⟨f.bo.toArray⟩, .int .i64 f.pl] 47)))
      have V1 := Lib.hid (V.out.alloc (.cells #[.string ⟨f.id.toArray⟩, .int .u8 f.st.toNat, .int .u8 f.fm.toNat, .int .u8 f.gr.toNat, .string ⟨f.bo.toArray⟩, .int .i64 f.pl] 47))
      have K1 := Lib.hid (K.out.alloc K.out.size (.cells #[.string ⟨f.id.toArray⟩, .int .u8 f.st.toNat, .int .u8 f.fm.toNat, .int .u8 f.gr.toNat, .string ⟨f.bo.toArray⟩, .int .i64 f.pl] 47))
      have F1 := Lib.hid (at_a0 wr #[.string ⟨f.id.toArray⟩, .int .u8 f.st.toNat, .int .u8 f.fm.toNat, .int .u8 f.gr.toNat, .string ⟨f.bo.toArray⟩, .int .i64 f.pl] 47)
      clear X Z V K HS x0 x1 x2 x3 c0 c1 c2 c3 c4 c5
      generalize wr.alloc (.cells #[.string ⟨f.id.toArray⟩, .int .u8 f.st.toNat, .int .u8 f.fm.toNat, .int .u8 f.gr.toNat, .string ⟨f.bo.toArray⟩, .int .i64 f.pl] 47) = w1 at *
      generalize wr.heap.size = fb at *
      obtain ⟨x0, x1, x2, x3⟩ := cells4 (X1.out); obtain ⟨xf0, xf1, xf2, xf3⟩ := frees4 (X1.out)
      obtain ⟨f0, f1, f2, f3, f4, f5⟩ := cells6 (F1.out)
      have hbs := K1.out.size
      have hxR := (Array.getElem?_eq_some_iff.1 X1.out).1
      go_region_law (first | (go_simp; go_at_call 65; refine (OF.out f _).mono ?_; rintro e w3 ⟨rfl, hb3⟩; have k3 := Lib.hid (fr_drewB hb3); have V3 := Lib.hid (V1.out.below k3.out); have X3 := Lib.hid (block_below X1.out k3.out); have hx3 := (Array.getElem?_eq_some_iff.1 X3.out).1; clear hb3; obtain ⟨y0, y1, y2, y3⟩ := cells4 (X3.out); obtain ⟨yf0, yf1, yf2, yf3⟩ := frees4 (X3.out)) | (have _chk := V3; refine step_pushR w3 rfl (.tmp 26) (.tmp 29) 38 rfl (xb + 1) 100 6 64 _ Try.underlying38 info_rframe rfl (by decide) (by decide) (.slice a2 j cap2) ((fs.take j).map rfR) (rfR f) _ (by rfl) rfl (one_rfR _) (by rfl) V3.out (by rfl) (by rw [HL1.out]; omega) (by have := k3.out.size; omega) _ ?_; intro v4 w4 hr4 hg4; have hl4 := V3.out.lt; have V4 := Lib.hid hr4; have X4 := Lib.hid (block_grown X3.out hg4 (fun k e => (hl4 k e).1) (by omega)); have Z4 := Lib.hid (block_grown (block_below Z1.out k3.out) hg4 (fun k e => (hl4 k e).1) (by omega)); have K4 := Lib.hid (tgo_grown (nextB K1.out k3.out) hg4 (fun k e => by have := (hl4 k e).1; omega) (by have := k3.out.size; omega)); obtain ⟨a4, cap4, hv4, _, _⟩ := V4.out.at; rw [HL2.out] at hv4; subst hv4; clear hl4 hr4 hg4; obtain ⟨z0, z1, z2, z3⟩ := cells4 (X4.out); obtain ⟨zf0, zf1, zf2, zf3⟩ := frees4 (X4.out)))
      all_goals (go_wp2; refine ⟨⟨j + 1, a4, cap4, by omega, by simp, Lib.hid ((heap_set_other _ (by omega)).trans Z4.out), Lib.hid (setCell_at X4.out), Lib.hid ?_, Lib.hid (Below.setCell (p := ⟨xb, 3, none⟩) K4.out (by show w.heap.size ≤ xb; omega) _)⟩, by simp [intOf]; omega⟩; rw [HV.out]; exact V4.out.onlyT (Only.set (b := xb) (j := 3) (.slice a4 (j + 1) cap4)) (by omega))
    · have g0 : ¬ (j : Int) < n := by omega
      have hjn : j = n := by omega
      subst hjn
      obtain ⟨z0, z1, z2, z3⟩ := cells4 (Z.out); obtain ⟨zf0, zf1, zf2, zf3⟩ := frees4 (Z.out)
      go_wp2
      refine end_cell rfl rfl rfl (store4 Z.out rfl) Try.underlying40 rfl (by kernel_rfl) ?_
      have hf : fs.take j = fs := List.take_of_length_le (by rw [HL.out]; exact Nat.le_refl _)
      have V2 := (((V.out.onlyT (Only.set (b := zb) (j := 0) (.int .i64 v)) (by omega)).onlyT (Only.set (b := zb) (j := 1) (.int .i64 rv.toNat)) (by omega)).onlyT (Only.set (b := zb) (j := 2) (.int .i64 fl.toNat)) (by omega)).onlyT (Only.set (b := zb) (j := 3) (.slice a2 j cap2)) (by omega)
      rw [hf] at V2
      refine ⟨a2, cap2, rfl, tgo_recs_atv V2, ?_⟩
      exact Below.setCell (p := ⟨zb, 3, none⟩) (Below.setCell (p := ⟨zb, 2, none⟩) (Below.setCell (p := ⟨zb, 1, none⟩) (Below.setCell (p := ⟨zb, 0, none⟩) K.out (by show w.heap.size ≤ zb; omega) _) (by show w.heap.size ≤ zb; omega) _) (by show w.heap.size ≤ zb; omega) _) (by show w.heap.size ≤ zb; omega) _
end Go.Proofs.Ytmnmonmbdgedbaa

namespace Go.Proofs.Ytmnmonmbdgedbaa
open Go.RowKit
set_option linter.unusedVariables false
set_option linter.unusedSimpArgs false

theorem rfs_cells {w : World} {a : Option Addr} {n : Nat} {L : List Fr} (h : RecsAt w a n 6 (L.map rfR)) (k : Nat) (hk : k < L.length) : ∃ b off, a = some ⟨b, off, none⟩ ∧ b < w.heap.size ∧
    w.cell? ⟨b, off + k * 6, none⟩ = some (.string ⟨L[k].id.toArray⟩) ∧ w.cell? ⟨b, off + k * 6 + 1, none⟩ = some (.int .i64 L[k].st.toNat) ∧ w.cell? ⟨b, off + k * 6 + 2, none⟩ = some (.int .i64 L[k].fm.toNat) ∧
    w.cell? ⟨b, off + k * 6 + 3, none⟩ = some (.int .i64 L[k].gr.toNat) ∧ w.cell? ⟨b, off + k * 6 + 4, none⟩ = some (.string ⟨L[k].bo.toArray⟩) ∧ w.cell? ⟨b, off + k * 6 + 5, none⟩ = some (.int .i64 L[k].pl) := by
  have hn := h.1
  rcases h.2.2 with h0 | ⟨b, off, ha, hb, hc⟩
  · simp at hn; omega
  · have hk' : k < (L.map rfR).length := by simpa using hk
    have key : ∀ j, j < 6 → w.cell? ⟨b, off + k * 6 + j, none⟩ = (rfR L[k])[j]? := fun j hj => by
      have := hc k hk' j hj
      rw [List.getElem_map] at this
      rw [← this]
      congr 2
      omega
    exact ⟨b, off, ha, hb, key 0 (by decide), key 1 (by decide), key 2 (by decide), key 3 (by decide), key 4 (by decide), key 5 (by decide)⟩
def zeroPl' (f : Fr) : Fr := { f with pl := 0 }
set_option maxHeartbeats 4000000 in
set_option maxRecDepth 100000 in
theorem tsame_yes (v rv fl : Int) (a1 a2 : Option Addr) (n c1 c2 : Nat) (L1 L2 : List Fr) (pb : Bool) (w : World) (h1 : Hid (RecsAt w a1 n 6 (L1.map rfR))) (h2 : Hid (RecsAt w a2 n 6 (L2.map rfR))) (hn : n ≤ 1000000)
    (he : Hid (L1.map (fun f => if pb = true then f else zeroPl' f) = L2.map (fun f => if pb = true then f else zeroPl' f))) :
    Calls Try.prog 19 #[.agg #[.int .i64 v, .int .i64 rv, .int .i64 fl, .slice a1 n c1], .agg #[.int .i64 v, .int .i64 rv, .int .i64 fl, .slice a2 n c2], .bool pb] w fun e w' => e = .returned (.bool true) ∧ Below w.heap.size w w' := by
  have HL1 : Hid (L1.length = n) := Lib.hid (by simpa using h1.out.1)
  have HL2 : Hid (L2.length = n) := Lib.hid (by simpa using h2.out.1)
  have hni : (n : Int) ≤ 1000000 := by omega
  go_enter Try.func19, Try.ntmps19
  go_upto_region 3 with (fail)
  have X := Lib.hid (at_a1 w #[.int .i64 v, .int .i64 rv, .int .i64 fl, .slice a1 n c1] 40 (.cells #[.int .i64 v, .int .i64 rv, .int .i64 fl, .slice a2 n c2] 40))
  have Y := Lib.hid (at_a2 w #[.int .i64 v, .int .i64 rv, .int .i64 fl, .slice a2 n c2] 40 (.cells #[.int .i64 v, .int .i64 rv, .int .i64 fl, .slice a1 n c1] 40))
  have K : Hid (Below w.heap.size w ((w.alloc (.cells #[.int .i64 v, .int .i64 rv, .int .i64 fl, .slice a1 n c1] 40)).alloc (.cells #[.int .i64 v, .int .i64 rv, .int .i64 fl, .slice a2 n c2] 40))) := Lib.hid (((Below.refl _ _).alloc (Nat.le_refl _) _).alloc (by simp) _)
  replace h1 := Lib.hid (h1.out.below K.out)
  replace h2 := Lib.hid (h2.out.below K.out)
  generalize (w.alloc (.cells #[.int .i64 v, .int .i64 rv, .int .i64 fl, .slice a1 n c1] 40)).alloc (.cells #[.int .i64 v, .int .i64 rv, .int .i64 fl, .slice a2 n c2] 40) = w0 at *
  generalize hxa : w.heap.size = xa at *
  obtain ⟨xb, hxb⟩ : ∃ xb, xb = xa + 1 := ⟨_, rfl⟩
  rw [← hxb]
  replace Y : Hid (w0.heap[xb]? = some (.cells #[.int .i64 v, .int .i64 rv, .int .i64 fl, .slice a2 n c2] 40 (0, 0))) := Lib.hid (by rw [hxb]; exact Y.out)
  have HXA := Lib.hid hxa
  clear hxb hxa
  obtain ⟨x0, x1, x2, x3⟩ := cells4 (X.out)
  obtain ⟨y0, y1, y2, y3⟩ := cells4 (Y.out)
  go_wp2
  clear x0 x1 x2 x3 y0 y1 y2 y3
  go_loopw [41] (fun i wr => ∃ (j : Nat), j ≤ n ∧ i = .int .i64 j ∧ Hid (Below w0.heap.size w0 wr)) (fun i _ => n - (intOf i).toNat)
  case atStart => exact ⟨0, by omega, rfl, Lib.hid (Below.refl _ _)⟩
  case round =>
    obtain ⟨j, hj, rfl, HB⟩ := hrel
    replace X := Lib.hid (block_below X.out HB.out)
    replace Y := Lib.hid (block_below Y.out HB.out)
    replace K := Lib.hid (K.out.trans (HB.out.mono (by have := K.out.size; have := HXA.out; omega)))
    replace h1 := Lib.hid (h1.out.below HB.out)
    replace h2 := Lib.hid (h2.out.below HB.out)
    have hxw := (Array.getElem?_eq_some_iff.1 X.out).1
    have hyw := (Array.getElem?_eq_some_iff.1 Y.out).1
    have hbs := HB.out.size
    obtain ⟨x0, x1, x2, x3⟩ := cells4 (X.out)
    obtain ⟨y0, y1, y2, y3⟩ := cells4 (Y.out)
    by_cases hlt : j < n
    · have g0 : (j : Int) < n := by omega
      have hj1 : j < L1.length := by rw [HL1.out]; exact hlt
      have hj2 : j < L2.length := by rw [HL2.out]; exact hlt
      obtain ⟨b, off, rfl, hbb, c0, c1', c2', c3, c4, c5⟩ := rfs_cells h1.out j hj1
      obtain ⟨b2, off2, rfl, hbb2, d0, d1, d2, d3, d4, d5⟩ := rfs_cells h2.out j hj2
      have hq : (L1.map (fun f => if pb = true then f else zeroPl' f))[j]'(by simpa using hj1) = (L2.map (fun f => if pb = true then f else zeroPl' f))[j]'(by simpa using hj2) := by simp only [he.out]
      rw [List.getElem_map, List.getElem_map] at hq
      generalize L1[j] = f at *
      generalize L2[j] = g at *
      obtain ⟨id, st, fm, gr, bo, p⟩ := f
      obtain ⟨id2, st2, fm2, gr2, bo2, r⟩ := g
      rcases pb with _ | _
      · simp only [Bool.false_eq_true, if_false, zeroPl', Fr.mk.injEq] at hq
        obtain ⟨rfl, rfl, rfl, rfl, rfl, _⟩ := hq
        go_upto_region 6 with (fail)
        go_region
        all_goals (go_wp2; refine ⟨⟨j + 1, by omega, by simp, Lib.hid ?_⟩, by simp [intOf]; omega⟩)
        all_goals exact ((HB.out.alloc HB.out.size _).alloc (by simp; omega) _).drew
      · simp only [if_true, Fr.mk.injEq] at hq
        obtain ⟨rfl, rfl, rfl, rfl, rfl, rfl⟩ := hq
        go_upto_region 6 with (fail)
        go_region
        all_goals (go_wp2; refine ⟨⟨j + 1, by omega, by simp, Lib.hid ?_⟩, by simp [intOf]; omega⟩)
        all_goals exact ((HB.out.alloc HB.out.size _).alloc (by simp; omega) _).drew
    · have g0 : ¬ (j : Int) < n := by omega
      go_wp2
      go_ret
      exact ⟨rfl, by rw [HXA.out]; exact K.out⟩
end Go.Proofs.Ytmnmonmbdgedbaa
