/- Layer 15 (tag): the law's Of and Same, walked. -/
import Derived.Test.YtmnmonmbdgedbaaTg7
import Derived.Laws.StructEq
import Derived.Deep.RegionLaw
namespace Go.Proofs.Ytmnmonmbdgedbaa
open Go.RowKit
set_option linter.unusedVariables false
set_option linter.unusedSimpArgs false

/-- a frame as the document has it: its cells -/
def rfR (f : Fr) : List Value := [.string ⟨f.id.toArray⟩, .int .i64 f.st.toNat, .int .i64 f.fm.toNat, .int .i64 f.gr.toNat, .string ⟨f.bo.toArray⟩, .int .i64 f.pl]
theorem info_rframe : (Try.prog.info? 100).map (fun i => (i.zero, i.size, i.bytes)) = some (some (.agg #[.string ⟨#[]⟩, .int .i64 0, .int .i64 0, .int .i64 0, .string ⟨#[]⟩, .int .i64 0]), 6, 64) := by kernel_rfl
theorem one_rfR (x : Fr) : ∀ u ∈ rfR x, u.oneCell' = true := by
  intro u hu
  simp only [rfR, List.mem_cons, List.not_mem_nil, or_false] at hu
  rcases hu with rfl | rfl | rfl | rfl | rfl | rfl <;> rfl
def TOf (v : Int) (rv fl : UInt8) (n : Nat) (fs : List Fr) (w : World) (e : Ending) (w' : World) : Prop :=
  ∃ a cap, e = .returned (.agg #[.int .i64 v, .int .i64 rv.toNat, .int .i64 fl.toNat, .slice a n cap]) ∧ RecsAt w' a n 6 (fs.map rfR) ∧ Below w.heap.size w w'
theorem tgo_recs_atv {w : World} {base e size n cap : Nat} {a : Option Addr} {L : List (List Value)} (h : Recs w base e size (.slice a n cap) L) : RecsAt w a n size L := by
  obtain ⟨a', cap', hv, _, hr⟩ := h.at
  obtain ⟨rfl, rfl, rfl⟩ : a = a' ∧ n = L.length ∧ cap = cap' := by simpa using hv
  exact hr
theorem tgo_grown {w wr w' : World} {v : Value} {B : Nat} (hB : Below B w wr) (hg : wr.grownBy w' v.ownBlock) (hv : ∀ k, v.ownBlock = some k → B ≤ k) (hs : B ≤ wr.heap.size) : Below B w w' := by
  refine ⟨hg.os.trans hB.os, hg.tape.trans hB.tape, hg.output.trans hB.output, Nat.le_trans hB.size hg.size, fun k hk => ?_⟩
  refine (hg.block k (Nat.lt_of_lt_of_le hk hs) ?_).trans (hB.block k hk)
  intro e
  have := hv k e.symm
  omega
set_option maxHeartbeats 4000000 in
set_option maxRecDepth 100000 in
theorem tof_any (v : Int) (rv fl : UInt8) (a : Option Addr) (n cap : Nat) (fs : List Fr) (w : World) (hs : Hid (RecsAt w a n 6 (fs.map frR))) (hn : n ≤ 1000000) :
    Calls Try.prog 20 #[.agg #[.int .i64 v, .int .u8 rv.toNat, .int .u8 fl.toNat, .slice a n cap]] w (TOf v rv fl n fs w) := by
  have HL : Hid (fs.length = n) := Lib.hid (by simpa using hs.out.1)
  have OF : Hid (∀ (f : Fr) (w : World), Calls Try.prog 65 #[.agg #[.string ⟨f.id.toArray⟩, .int .u8 f.st.toNat, .int .u8 f.fm.toNat, .int .u8 f.gr.toNat, .string ⟨f.bo.toArray⟩, .int .i64 f.pl]] w fun e w' => e = .returned (.agg #[.string ⟨f.id.toArray⟩, .int .i64 f.st.toNat, .int .i64 f.fm.toNat, .int .i64 f.gr.toNat, .string ⟨f.bo.toArray⟩, .int .i64 f.pl]) ∧ Below w.heap.size w w') := Lib.hid (fun f w => fof_any f w)
  have b1 := byte_le rv
  have b2 := byte_le fl
  have hni : (n : Int) ≤ 1000000 := by omega
  obtain ⟨xb, hxb⟩ : ∃ xb, xb = w.heap.size + 1 + 1 := ⟨_, rfl⟩
  obtain ⟨zb, hzb⟩ : ∃ zb, zb = w.heap.size + 1 := ⟨_, rfl⟩
  have X : Hid ((((w.alloc (.cells #[.int .i64 v, .int .u8 rv.toNat, .int .u8 fl.toNat, .slice a n cap] 26)).alloc (.cells #[.int .i64 0, .int .i64 0, .int .i64 0, .slice none 0 0] 40)).alloc (.cells #[.int .i64 v, .int .i64 rv.toNat, .int .i64 fl.toNat, .slice none 0 0] 40)).heap[xb]? = some (.cells #[.int .i64 v, .int .i64 rv.toNat, .int .i64 fl.toNat, .slice none 0 0] 40 (0, 0))) := Lib.hid (by have h := at_a0 ((w.alloc (.cells #[.int .i64 v, .int .u8 rv.toNat, .int .u8 fl.toNat, .slice a n cap] 26)).alloc (.cells #[.int .i64 0, .int .i64 0, .int .i64 0, .slice none 0 0] 40)) #[.int .i64 v, .int .i64 rv.toNat, .int .i64 fl.toNat, .slice none 0 0] 40; rw [hxb]; simpa using h)
  have Z : Hid ((((w.alloc (.cells #[.int .i64 v, .int .u8 rv.toNat, .int .u8 fl.toNat, .slice a n cap] 26)).alloc (.cells #[.int .i64 0, .int .i64 0, .int .i64 0, .slice none 0 0] 40)).alloc (.cells #[.int .i64 v, .int .i64 rv.toNat, .int .i64 fl.toNat, .slice none 0 0] 40)).heap[zb]? = some (.cells #[.int .i64 0, .int .i64 0, .int .i64 0, .slice none 0 0] 40 (0, 0))) := Lib.hid (by have h := at_a1 (w.alloc (.cells #[.int .i64 v, .int .u8 rv.toNat, .int .u8 fl.toNat, .slice a n cap] 26)) #[.int .i64 0, .int .i64 0, .int .i64 0, .slice none 0 0] 40 (.cells #[.int .i64 v, .int .i64 rv.toNat, .int .i64 fl.toNat, .slice none 0 0] 40); rw [hzb]; simpa using h)
  have B : Hid ((((w.alloc (.cells #[.int .i64 v, .int .u8 rv.toNat, .int .u8 fl.toNat, .slice a n cap] 26)).alloc (.cells #[.int .i64 0, .int .i64 0, .int .i64 0, .slice none 0 0] 40)).alloc (.cells #[.int .i64 v, .int .i64 rv.toNat, .int .i64 fl.toNat, .slice none 0 0] 40)).heap[w.heap.size]? = some (.cells #[.int .i64 v, .int .u8 rv.toNat, .int .u8 fl.toNat, .slice a n cap] 26 (0, 0))) := Lib.hid (block_below (at_a0 w #[.int .i64 v, .int .u8 rv.toNat, .int .u8 fl.toNat, .slice a n cap] 26) (((Below.refl _ _).alloc (Nat.le_refl _) _).alloc (by simp) _))
  have K : Hid (Below w.heap.size w (((w.alloc (.cells #[.int .i64 v, .int .u8 rv.toNat, .int .u8 fl.toNat, .slice a n cap] 26)).alloc (.cells #[.int .i64 0, .int .i64 0, .int .i64 0, .slice none 0 0] 40)).alloc (.cells #[.int .i64 v, .int .i64 rv.toNat, .int .i64 fl.toNat, .slice none 0 0] 40))) := Lib.hid ((((Below.refl _ _).alloc (Nat.le_refl _) _).alloc (by simp) _).alloc (by simp; omega) _)
  go_enter Try.func20, Try.ntmps20
  go_upto_region 2 with (fail)
  rw [← hxb, ← hzb]
  have hzx : zb < xb := by omega
  have hzw : w.heap.size < zb := by omega
  clear hxb hzb
  generalize ((w.alloc (.cells #[.int .i64 v, .int .u8 rv.toNat, .int .u8 fl.toNat, .slice a n cap] 26)).alloc (.cells #[.int .i64 0, .int .i64 0, .int .i64 0, .slice none 0 0] 40)).alloc (.cells #[.int .i64 v, .int .i64 rv.toNat, .int .i64 fl.toNat, .slice none 0 0] 40) = w0 at *
  obtain ⟨y0, y1, y2, y3⟩ := cells4 (B.out)
  go_wp2
  clear y0 y1 y2 y3
  go_loopw [21] (fun i wr => ∃ (j : Nat) (a2 : Option Addr) (cap2 : Nat), j ≤ n ∧ i = .int .i64 j ∧ Hid (wr.heap[zb]? = some (.cells #[.int .i64 0, .int .i64 0, .int .i64 0, .slice none 0 0] 40 (0, 0))) ∧ Hid (wr.heap[xb]? = some (.cells #[.int .i64 v, .int .i64 rv.toNat, .int .i64 fl.toNat, .slice a2 j cap2] 40 (0, 0))) ∧ Hid (Recs wr (xb + 1) 100 6 (.slice a2 j cap2) ((fs.take j).map rfR)) ∧ Hid (Below w.heap.size w wr)) (fun i _ => n - (intOf i).toNat)
  case atStart => exact ⟨0, none, 0, by omega, rfl, Z, X, Lib.hid (Recs.nil _ _ _ _), K⟩
  case round =>
    clear X K Z B
    obtain ⟨j, a2, cap2, hj, rfl, Z, X, V, K⟩ := hrel
    have HS := Lib.hid (hs.out.below K.out)
    have hxR := (Array.getElem?_eq_some_iff.1 X.out).1
    obtain ⟨x0, x1, x2, x3⟩ := cells4 (X.out)
    by_cases hlt : j < n
    · have g0 : (j : Int) < n := by omega
      have hjl : j < fs.length := by rw [HL.out]; exact hlt
      obtain ⟨b, off, rfl, hbb, c0, c1, c2, c3, c4, c5⟩ := frs_cells HS.out j hjl
      have HV := Lib.hid (show (fs.take (j + 1)).map rfR = (fs.take j).map rfR ++ [rfR fs[j]] by rw [List.take_succ_eq_append_getElem hjl, List.map_append]; rfl)
      have HL1 : Hid (((fs.take j).map rfR).length = j) := Lib.hid (by simp; omega)
      have HL2 : Hid (((fs.take j).map rfR ++ [rfR fs[j]]).length = j + 1) := Lib.hid (by rw [List.length_append, HL1.out]; rfl)
      generalize fs[j] = f at *
      go_upto_region 5 with (fail)
      have X1 := Lib.hid (block_below X.out ((Below.refl _ _).alloc (Nat.le_refl _) (.cells #[.string ⟨f.id.toArray⟩, .int .u8 f.st.toNat, .int .u8 f.fm.toNat, .int .u8 f.gr.toNat, .string ⟨f.bo.toArray⟩, .int .i64 f.pl] 47)))
      have Z1 := Lib.hid (block_below Z.out ((Below.refl _ _).alloc (Nat.le_refl _) (.cells #[.string ⟨f.id.toArray⟩, .int .u8 f.st.toNat, .int .u8 f.fm.toNat, .int .u8 f.gr.toNat, .string ⟨f.bo.toArray⟩, .int .i64 f.pl] 47)))
      have V1 := Lib.hid (V.out.alloc (.cells #[.string ⟨f.id.toArray⟩, .int .u8 f.st.toNat, .int .u8 f.fm.toNat, .int .u8 f.gr.toNat, .string ⟨f.bo.toArray⟩, .int .i64 f.pl] 47))
      have K1 := Lib.hid (K.out.alloc K.out.size (.cells #[.string ⟨f.id.toArray⟩, .int .u8 f.st.toNat, .int .u8 f.fm.toNat, .int .u8 f.gr.toNat, .string ⟨f.bo.toArray⟩, .int .i64 f.pl] 47))
      have F1 := Lib.hid (at_a0 wr #[.string ⟨f.id.toArray⟩, .int .u8 f.st.toNat, .int .u8 f.fm.toNat, .int .u8 f.gr.toNat, .string ⟨f.bo.toArray⟩, .int .i64 f.pl] 47)
      clear X Z V K HS x0 x1 x2 x3 c0 c1 c2 c3 c4 c5
      generalize wr.alloc (.cells #[.string ⟨f.id.toArray⟩, .int .u8 f.st.toNat, .int .u8 f.fm.toNat, .int .u8 f.gr.toNat, .string ⟨f.bo.toArray⟩, .int .i64 f.pl] 47) = w1 at *
      generalize wr.heap.size = fb at *
      obtain ⟨x0, x1, x2, x3⟩ := cells4 (X1.out); obtain ⟨xf0, xf1, xf2, xf3⟩ := frees4 (X1.out)
      obtain ⟨f0, f1, f2, f3, f4, f5⟩ := cells6 (F1.out)
      have hbs := K1.out.size
      have hxR := (Array.getElem?_eq_some_iff.1 X1.out).1
      go_region_law (first | (go_simp; go_at_call 65; refine (OF.out f _).mono ?_; rintro e w3 ⟨rfl, hb3⟩; have k3 := Lib.hid (fr_drewB hb3); have V3 := Lib.hid (V1.out.below k3.out); have X3 := Lib.hid (block_below X1.out k3.out); have hx3 := (Array.getElem?_eq_some_iff.1 X3.out).1; clear hb3; obtain ⟨y0, y1, y2, y3⟩ := cells4 (X3.out); obtain ⟨yf0, yf1, yf2, yf3⟩ := frees4 (X3.out)) | (have _chk := V3; refine step_pushR w3 rfl (.tmp 26) (.tmp 29) 38 rfl (xb + 1) 100 6 64 _ Try.underlying38 info_rframe rfl (by decide) (by decide) (.slice a2 j cap2) ((fs.take j).map rfR) (rfR f) _ (by rfl) rfl (one_rfR _) (by rfl) V3.out (by rfl) (by rw [HL1.out]; omega) (by have := k3.out.size; omega) _ ?_; intro v4 w4 hr4 hg4; have hl4 := V3.out.lt; have V4 := Lib.hid hr4; have X4 := Lib.hid (block_grown X3.out hg4 (fun k e => (hl4 k e).1) (by omega)); have Z4 := Lib.hid (block_grown (block_below Z1.out k3.out) hg4 (fun k e => (hl4 k e).1) (by omega)); have K4 := Lib.hid (tgo_grown (nextB K1.out k3.out) hg4 (fun k e => by have := (hl4 k e).1; omega) (by have := k3.out.size; omega)); obtain ⟨a4, cap4, hv4, _, _⟩ := V4.out.at; rw [HL2.out] at hv4; subst hv4; clear hl4 hr4 hg4; obtain ⟨z0, z1, z2, z3⟩ := cells4 (X4.out); obtain ⟨zf0, zf1, zf2, zf3⟩ := frees4 (X4.out)))
      all_goals (go_wp2; refine ⟨⟨j + 1, a4, cap4, by omega, by simp, Lib.hid ((heap_set_other _ (by omega)).trans Z4.out), Lib.hid (setCell_at X4.out), Lib.hid ?_, Lib.hid (Below.setCell (p := ⟨xb, 3, none⟩) K4.out (by show w.heap.size ≤ xb; omega) _)⟩, by simp [intOf]; omega⟩; rw [HV.out]; exact V4.out.onlyT (Only.set (b := xb) (j := 3) (.slice a4 (j + 1) cap4)) (by omega))
    · have g0 : ¬ (j : Int) < n := by omega
      have hjn : j = n := by omega
      subst hjn
      obtain ⟨z0, z1, z2, z3⟩ := cells4 (Z.out); obtain ⟨zf0, zf1, zf2, zf3⟩ := frees4 (Z.out)
      go_wp2
      refine end_cell rfl rfl rfl (store4 Z.out rfl) Try.underlying40 rfl (by kernel_rfl) ?_
      have hf : fs.take j = fs := List.take_of_length_le (by rw [HL.out]; exact Nat.le_refl _)
      have V2 := (((V.out.onlyT (Only.set (b := zb) (j := 0) (.int .i64 v)) (by omega)).onlyT (Only.set (b := zb) (j := 1) (.int .i64 rv.toNat)) (by omega)).onlyT (Only.set (b := zb) (j := 2) (.int .i64 fl.toNat)) (by omega)).onlyT (Only.set (b := zb) (j := 3) (.slice a2 j cap2)) (by omega)
      rw [hf] at V2
      refine ⟨a2, cap2, rfl, tgo_recs_atv V2, ?_⟩
      exact Below.setCell (p := ⟨zb, 3, none⟩) (Below.setCell (p := ⟨zb, 2, none⟩) (Below.setCell (p := ⟨zb, 1, none⟩) (Below.setCell (p := ⟨zb, 0, none⟩) K.out (by show w.heap.size ≤ zb; omega) _) (by show w.heap.size ≤ zb; omega) _) (by show w.heap.size ≤ zb; omega) _) (by show w.heap.size ≤ zb; omega) _
end Go.Proofs.Ytmnmonmbdgedbaa
