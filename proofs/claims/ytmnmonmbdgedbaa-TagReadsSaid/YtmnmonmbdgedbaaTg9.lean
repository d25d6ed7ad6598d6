/- Layer 15 (tag): Parse, walked (printed by gen_tg9.py). -/
import Derived.Test.YtmnmonmbdgedbaaTg8
namespace Go.Proofs.Ytmnmonmbdgedbaa
open Go.RowKit
set_option linter.unusedVariables false
set_option linter.unusedSimpArgs false

theorem end_ctc {P : Program} {fn : Func} {R : Ending → World → Prop} {a : Act} {w : World} {p1 u p2 : Tmp} {ty1 ty2 t1 t2 : TypeId} {b1 b2 : Nat} {C1 C2 : Array Value} {d1 d2 : TypeDesc}
    (h : fn.results = #[.cell p1 ty1, .tmp u, .cell p2 ty2]) (hd0 : a.defers = []) (hp1 : a.tmps.getD p1 undef = .pointer (some ⟨b1, 0, none⟩)) (hg1 : w.heap[b1]? = some (.cells C1 t1 (0, 0)))
    (hu1 : P.underlying ty1 = some d1) (hd1 : (match d1 with | .struct _ | .array _ _ => true | _ => false) = true) (hi1 : (P.info? ty1).map (·.size) = some C1.size)
    (hp2 : a.tmps.getD p2 undef = .pointer (some ⟨b2, 0, none⟩)) (hg2 : w.heap[b2]? = some (.cells C2 t2 (0, 0)))
    (hu2 : P.underlying ty2 = some d2) (hd2 : (match d2 with | .struct _ | .array _ _ => true | _ => false) = true) (hi2 : (P.info? ty2).map (·.size) = some C2.size)
    (hR : R (.returned (.tuple #[.agg C1, a.tmps.getD u undef, .agg C2])) w) : bodyPost P fn R .ret a w := by
  refine bodyPost_ret (v := .tuple #[.agg C1, a.tmps.getD u undef, .agg C2]) ?_ hd0 hR
  have hp1' : a.tmps[p1]?.getD undef = .pointer (some ⟨b1, 0, none⟩) := by simpa using hp1
  have hp2' : a.tmps[p2]?.getD undef = .pointer (some ⟨b2, 0, none⟩) := by simpa using hp2
  simp only [results, h]
  simp [hp1', hp2', asAddr, run_loadVar_row w b1 t1 ty1 C1 (0, 0) d1 hg1 hu1 hd1 hi1, run_loadVar_row w b2 t2 ty2 C2 (0, 0) d2 hg2 hu2 hd2 hi2]
def TParse (t : Tg) (rest : List UInt8) (c q : Int) (w : World) (e : Ending) (w' : World) : Prop :=
  ∃ u, e = .returned (.tuple #[.agg #[.int .i64 t.v, .int .u8 t.rv.toNat, .int .u8 t.fl.toNat, u], .string ⟨rest.toArray⟩, .agg #[.int .i64 c, .int .i64 q]]) ∧ Recs w' w.heap.size 47 6 u (t.fs.map frR) ∧ Below w.heap.size w w'
def zeroT : Tg := ⟨0, 0, 0, []⟩
/-- both results lie where they should -/
theorem two_cells {w : World} {b c : Nat} {C D : Array Value} {T U : TypeId} {a0 a1 a2 a3 d0 d1 : Value} (h1 : w.heap[b]? = some (.cells C T (0, 0))) (h2 : w.heap[c]? = some (.cells D U (0, 0))) (hC : C.size = 4) (hD : D.size = 2) (hne : b ≠ c) :
    ((((((w.setCell ⟨b, 0, none⟩ a0).setCell ⟨b, 1, none⟩ a1).setCell ⟨b, 2, none⟩ a2).setCell ⟨b, 3, none⟩ a3).setCell ⟨c, 0, none⟩ d0).setCell ⟨c, 1, none⟩ d1).heap[b]? = some (.cells #[a0, a1, a2, a3] T (0, 0)) ∧
    ((((((w.setCell ⟨b, 0, none⟩ a0).setCell ⟨b, 1, none⟩ a1).setCell ⟨b, 2, none⟩ a2).setCell ⟨b, 3, none⟩ a3).setCell ⟨c, 0, none⟩ d0).setCell ⟨c, 1, none⟩ d1).heap[c]? = some (.cells #[d0, d1] U (0, 0)) := by
  constructor
  · rw [heap_set_other _ hne, heap_set_other _ hne]
    exact store4 h1 hC
  · refine store2 (C := D) ?_ hD
    rw [heap_set_other _ hne.symm, heap_set_other _ hne.symm, heap_set_other _ hne.symm, heap_set_other _ hne.symm]
    exact h2
theorem two_below {B : Nat} {w0 w : World} {b c : Nat} (h : Below B w0 w) (hb : B ≤ b) (hc : B ≤ c) (a0 a1 a2 a3 d0 d1 : Value) :
    Below B w0 ((((((w.setCell ⟨b, 0, none⟩ a0).setCell ⟨b, 1, none⟩ a1).setCell ⟨b, 2, none⟩ a2).setCell ⟨b, 3, none⟩ a3).setCell ⟨c, 0, none⟩ d0).setCell ⟨c, 1, none⟩ d1) :=
  (((((h.setCell hb _).setCell hb _).setCell hb _).setCell hb _).setCell hc _).setCell hc _
theorem fr_drewO {b : Nat} {V w : World} (h : Only b V.drew w) : Only b V w := ⟨h.os, h.tape, h.output, h.size, h.block⟩
theorem block_drew {w : World} {b : Nat} {o : Obj} (h : w.heap[b]? = some o) : w.drew.heap[b]? = some o := h
set_option maxHeartbeats 2000000 in
set_option maxRecDepth 100000 in
theorem tparse_none (l : List UInt8) (w : World) (h : (l.length < 3) ∨ l.take 3 ≠ [73, 68, 51]) : Calls Try.prog 17 #[.string ⟨l.toArray⟩] w (TParse zeroT l 0 0 w) := by
  by_cases h3 : l.length < 3
  · have g3 : (l.length : Int) < 3 := by omega
    clear h
    go_enter Try.func17, Try.ntmps17
    go_wp2
    exact end_ctc rfl rfl rfl (at_a1 w _ _ _) Try.underlying26 rfl (by kernel_rfl) rfl (at_a2 w _ _ _) Try.underlying31 rfl (by kernel_rfl) ⟨_, rfl, Recs.nil _ _ _ _, ((Below.refl _ _).alloc (Nat.le_refl _) _).alloc (by simp) _⟩
  · have g3 : ¬ (l.length : Int) < 3 := by omega
    have ht := h.resolve_left h3
    have t1 : (l.take 3 = [73, 68, 51]) = False := eq_false ht
    have t2 : (l.take 3 == [73, 68, 51]) = false := by simpa using ht
    have g4 : (3 : Int) ≤ l.length := by omega
    have g5 : 3 ≤ l.length := by omega
    clear h ht
    go_enter Try.func17, Try.ntmps17
    go_wp2
    exact end_ctc rfl rfl rfl (at_a1 w _ _ _) Try.underlying26 rfl (by kernel_rfl) rfl (at_a2 w _ _ _) Try.underlying31 rfl (by kernel_rfl) ⟨_, rfl, Recs.nil _ _ _ _, ((Below.refl _ _).alloc (Nat.le_refl _) _).alloc (by simp) _⟩
set_option maxHeartbeats 8000000 in
set_option maxRecDepth 100000 in
theorem tparse_bad1 (l : List UInt8) (v : Int) (rv fl : UInt8) (n c1 q1 c2 q2 c3 q3 : Int) (m0 m1 m2 m3 m4 m5 m6 i0 i1 i2 : Rd) (body0 body rest : List UInt8) (ok1 ok2 : Bool) (fs : List Fr) (w : World) (h3 : 3 ≤ l.length) (hid : l.take 3 = [73, 68, 51])
    (RD : Hid (∀ w, Calls Try.prog 52 #[.string ⟨l.toArray⟩] w fun e w' => e = .returned (.pointer (some ⟨w.heap.size, 0, none⟩)) ∧ RdAt w' w.heap.size m0 ∧ Below w.heap.size w w'))
    (HD : Hid (∀ b w, RdAt w b m0 → Calls Try.prog 53 #[.pointer (some ⟨b, 0, none⟩)] w fun e w' => e = .returned (.agg #[.int .i64 v, .int .u8 rv.toNat, .int .u8 fl.toNat]) ∧ RdAt w' b m1 ∧ Only b w w'))
    (SF : Hid (∀ b w, RdAt w b m1 → Calls Try.prog 55 #[.pointer (some ⟨b, 0, none⟩)] w fun e w' => e = .returned (.int .i64 n) ∧ RdAt w' b m2 ∧ Only b w w'))
    (TK : Hid (∀ b w, RdAt w b m2 → Calls Try.prog 54 #[.pointer (some ⟨b, 0, none⟩), .int .i64 n] w fun e w' => e = .returned (.string ⟨body0.toArray⟩) ∧ RdAt w' b m3 ∧ Only b w w'))
    (FA : Hid (∀ b w, RdAt w b m3 → Calls Try.prog 56 #[.pointer (some ⟨b, 0, none⟩)] w fun e w' => e = .returned (.agg #[.int .i64 c1, .int .i64 q1]) ∧ Below w.heap.size w w'))
    (hc1 : c1 ≠ 0)
    : Calls Try.prog 17 #[.string ⟨l.toArray⟩] w (TParse zeroT [] c1 q1 w) := by
  have BD1 := Lib.hid (fun w => bad_any c1 q1 w)
  rw [show (c1 != 0) = true by simpa using hc1] at BD1
  clear hc1
  have g3 : ¬ (l.length : Int) < 3 := by omega
  have g4 : (3 : Int) ≤ l.length := by omega
  have t1 : (l.take 3 = [73, 68, 51]) = True := eq_true hid
  have t2 : (l.take 3 == [73, 68, 51]) = true := by simpa using hid
  clear hid
  try unfold TSkip at *
  try unfold TFrames at *
  unfold TParse
  go_enter Try.func17, Try.ntmps17
  go_upto_region 3 with (fail)
  have X := Lib.hid (at_a1 w #[.int .i64 0, .int .u8 0, .int .u8 0, .slice none 0 0] 26 (.cells #[.int .i64 0, .int .i64 0] 31))
  have F := Lib.hid (at_a2 w #[.int .i64 0, .int .i64 0] 31 (.cells #[.int .i64 0, .int .u8 0, .int .u8 0, .slice none 0 0] 26))
  have K : Hid (Below w.heap.size w ((w.alloc (.cells #[.int .i64 0, .int .u8 0, .int .u8 0, .slice none 0 0] 26)).alloc (.cells #[.int .i64 0, .int .i64 0] 31))) := Lib.hid (((Below.refl _ _).alloc (Nat.le_refl _) _).alloc (by simp) _)
  have hw0 : w.heap.size + 1 < ((w.alloc (.cells #[.int .i64 0, .int .u8 0, .int .u8 0, .slice none 0 0] 26)).alloc (.cells #[.int .i64 0, .int .i64 0] 31)).heap.size := by simp
  generalize (w.alloc (.cells #[.int .i64 0, .int .u8 0, .int .u8 0, .slice none 0 0] 26)).alloc (.cells #[.int .i64 0, .int .i64 0] 31) = w0 at *
  go_upto_region 8 with (first | (go_at_call 52; (with_reducible refine (RD.out _).mono ?_); rintro e w1 ⟨rfl, hr1, hb1⟩; have R := Lib.hid hr1; replace X := Lib.hid (block_below X.out (hb1)); replace F := Lib.hid (block_below F.out (hb1)); replace K := Lib.hid (nextB K.out (hb1)); clear hb1; clear hr1) | (go_at_call 53; (with_reducible refine (HD.out _ _ R.out).mono ?_); rintro e w2 ⟨rfl, r2, o2⟩; replace X := Lib.hid (block_only X.out o2 (by omega)); replace F := Lib.hid (block_only F.out o2 (by omega)); replace K := Lib.hid (onlyB K.out o2 (by omega)); clear o2; replace R := Lib.hid r2; have hr2 := R.out.lt; clear r2) | (go_at_call 55; (with_reducible refine (SF.out _ _ (R.out.alloc _)).mono ?_); rintro e w3 ⟨rfl, r3, o3⟩; have Y := Lib.hid (at_a0 w2 #[.int .i64 v, .int .u8 rv.toNat, .int .u8 fl.toNat] 23); replace X := Lib.hid (block_below X.out ((Below.refl w2.heap.size w2).alloc (Nat.le_refl _) (.cells #[.int .i64 v, .int .u8 rv.toNat, .int .u8 fl.toNat] 23))); replace F := Lib.hid (block_below F.out ((Below.refl w2.heap.size w2).alloc (Nat.le_refl _) (.cells #[.int .i64 v, .int .u8 rv.toNat, .int .u8 fl.toNat] 23))); replace K := Lib.hid (nextB K.out ((Below.refl w2.heap.size w2).alloc (Nat.le_refl _) (.cells #[.int .i64 v, .int .u8 rv.toNat, .int .u8 fl.toNat] 23))); replace X := Lib.hid (block_only X.out o3 (by omega)); replace F := Lib.hid (block_only F.out o3 (by omega)); replace Y := Lib.hid (block_only Y.out o3 (by omega)); replace K := Lib.hid (onlyB K.out o3 (by omega)); clear o3; replace R := Lib.hid r3; clear r3) | (go_at_call 54; (with_reducible refine (TK.out _ _ R.out).mono ?_); rintro e w4 ⟨rfl, r4, o4⟩; replace X := Lib.hid (block_only X.out o4 (by omega)); replace F := Lib.hid (block_only F.out o4 (by omega)); replace Y := Lib.hid (block_only Y.out o4 (by omega)); replace K := Lib.hid (onlyB K.out o4 (by omega)); clear o4; replace R := Lib.hid r4; clear r4) | (go_at_call 56; (with_reducible refine (FA.out _ _ R.out).mono ?_); rintro e w5 ⟨rfl, hb5⟩; have F1 := hb5; clear F1; replace X := Lib.hid (block_below X.out (hb5)); replace F := Lib.hid (block_below F.out (hb5)); replace Y := Lib.hid (block_below Y.out (hb5)); replace R := Lib.hid (R.out.below (hb5)); replace K := Lib.hid (nextB K.out (hb5)); clear hb5; have hy5 := (Array.getElem?_eq_some_iff.1 Y.out).1) | (go_at_call 16; (with_reducible refine (BD1.out _).mono ?_); rintro e w6 ⟨rfl, hb6⟩; have G := Lib.hid (block_below (at_a0 w5 #[.int .i64 c1, .int .i64 q1] 31) hb6); replace X := Lib.hid (block_below X.out (below_a1 hb6)); replace F := Lib.hid (block_below F.out (below_a1 hb6)); replace Y := Lib.hid (block_below Y.out (below_a1 hb6)); replace R := Lib.hid (R.out.below (below_a1 hb6)); replace K := Lib.hid (nextB K.out (below_a1 hb6)); clear hb6; obtain ⟨y0, y1, y2⟩ := cells3 (Y.out); have hy6 := (Array.getElem?_eq_some_iff.1 Y.out).1; have hr6 := R.out.lt))
  obtain ⟨x0, x1, x2, x3⟩ := cells4 (X.out); obtain ⟨xf0, xf1, xf2, xf3⟩ := frees4 (X.out)
  obtain ⟨f0, f1⟩ := cells2 (F.out); obtain ⟨ff0, ff1⟩ := frees2 (F.out)
  obtain ⟨g0, g1⟩ := cells2 (G.out)
  have hg := (Array.getElem?_eq_some_iff.1 G.out).1
  have n1 : w.heap.size ≠ w.heap.size + 1 := by omega
  have n2 : w.heap.size ≠ w5.heap.size := by omega
  have n3 : w.heap.size + 1 ≠ w5.heap.size := by omega
  have XD := Lib.hid X.out
  have FD := Lib.hid F.out
  have KD := Lib.hid K.out
  clear R Y K X F G RD HD SF TK FA BD1
  go_region
  go_wp2
  have hc := two_cells (a0 := .int .i64 0) (a1 := .int .u8 0) (a2 := .int .u8 0) (a3 := .slice none 0 0) (d0 := .int .i64 c1) (d1 := .int .i64 q1) XD.out FD.out rfl rfl n1
  exact end_ctc rfl rfl rfl (block_drew hc.1) Try.underlying26 rfl (by kernel_rfl) rfl (block_drew hc.2) Try.underlying31 rfl (by kernel_rfl) ⟨_, rfl, Recs.nil _ _ _ _, (two_below KD.out (Nat.le_refl _) (by omega) _ _ _ _ _ _).drew⟩
set_option maxHeartbeats 8000000 in
set_option maxRecDepth 100000 in
theorem tparse_bad2_0 (l : List UInt8) (v : Int) (rv fl : UInt8) (n c1 q1 c2 q2 c3 q3 : Int) (m0 m1 m2 m3 m4 m5 m6 i0 i1 i2 : Rd) (body0 body rest : List UInt8) (ok1 ok2 : Bool) (fs : List Fr) (w : World) (h3 : 3 ≤ l.length) (hid : l.take 3 = [73, 68, 51])
    (RD : Hid (∀ w, Calls Try.prog 52 #[.string ⟨l.toArray⟩] w fun e w' => e = .returned (.pointer (some ⟨w.heap.size, 0, none⟩)) ∧ RdAt w' w.heap.size m0 ∧ Below w.heap.size w w'))
    (HD : Hid (∀ b w, RdAt w b m0 → Calls Try.prog 53 #[.pointer (some ⟨b, 0, none⟩)] w fun e w' => e = .returned (.agg #[.int .i64 v, .int .u8 rv.toNat, .int .u8 fl.toNat]) ∧ RdAt w' b m1 ∧ Only b w w'))
    (SF : Hid (∀ b w, RdAt w b m1 → Calls Try.prog 55 #[.pointer (some ⟨b, 0, none⟩)] w fun e w' => e = .returned (.int .i64 n) ∧ RdAt w' b m2 ∧ Only b w w'))
    (TK : Hid (∀ b w, RdAt w b m2 → Calls Try.prog 54 #[.pointer (some ⟨b, 0, none⟩), .int .i64 n] w fun e w' => e = .returned (.string ⟨body0.toArray⟩) ∧ RdAt w' b m3 ∧ Only b w w'))
    (FA : Hid (∀ b w, RdAt w b m3 → Calls Try.prog 56 #[.pointer (some ⟨b, 0, none⟩)] w fun e w' => e = .returned (.agg #[.int .i64 c1, .int .i64 q1]) ∧ Below w.heap.size w w'))
    (WH : Hid (∀ w, Calls Try.prog 57 #[.agg #[.int .i64 v, .int .u8 rv.toNat, .int .u8 fl.toNat]] w fun e w' => e = .returned (.bool false) ∧ Below w.heap.size w w'))
    (EB : body0 = body)
    (IN : Hid (∀ w, Calls Try.prog 58 #[.string ⟨body.toArray⟩, .int .i64 10] w fun e w' => e = .returned (.pointer (some ⟨w.heap.size, 0, none⟩)) ∧ RdAt w' w.heap.size i0 ∧ Below w.heap.size w w'))
    (SK : Hid (∀ b w, RdAt w b i0 → Calls Try.prog 59 #[.agg #[.int .i64 v, .int .u8 rv.toNat, .int .u8 fl.toNat], .pointer (some ⟨b, 0, none⟩)] w (TSkip b i1 w)))
    (FR : Hid (∀ b w, RdAt w b i1 → Calls Try.prog 60 #[.agg #[.int .i64 v, .int .u8 rv.toNat, .int .u8 fl.toNat], .pointer (some ⟨b, 0, none⟩)] w (TFrames b i2 fs w)))
    (FI : Hid (∀ b w, RdAt w b i2 → Calls Try.prog 56 #[.pointer (some ⟨b, 0, none⟩)] w fun e w' => e = .returned (.agg #[.int .i64 c2, .int .i64 q2]) ∧ Below w.heap.size w w'))
    (hc1 : c1 = 0) (hc2 : c2 ≠ 0)
    : Calls Try.prog 17 #[.string ⟨l.toArray⟩] w (TParse zeroT [] c2 q2 w) := by
  subst EB
  have BD1 := Lib.hid (fun w => bad_any c1 q1 w)
  rw [hc1] at BD1
  rw [show ((0 : Int) != 0) = false by rfl] at BD1
  rw [hc1] at FA
  clear hc1
  have BD2 := Lib.hid (fun w => bad_any c2 q2 w)
  rw [show (c2 != 0) = true by simpa using hc2] at BD2
  clear hc2
  have g3 : ¬ (l.length : Int) < 3 := by omega
  have g4 : (3 : Int) ≤ l.length := by omega
  have t1 : (l.take 3 = [73, 68, 51]) = True := eq_true hid
  have t2 : (l.take 3 == [73, 68, 51]) = true := by simpa using hid
  clear hid
  try unfold TSkip at *
  try unfold TFrames at *
  unfold TParse
  go_enter Try.func17, Try.ntmps17
  go_upto_region 3 with (fail)
  have X := Lib.hid (at_a1 w #[.int .i64 0, .int .u8 0, .int .u8 0, .slice none 0 0] 26 (.cells #[.int .i64 0, .int .i64 0] 31))
  have F := Lib.hid (at_a2 w #[.int .i64 0, .int .i64 0] 31 (.cells #[.int .i64 0, .int .u8 0, .int .u8 0, .slice none 0 0] 26))
  have K : Hid (Below w.heap.size w ((w.alloc (.cells #[.int .i64 0, .int .u8 0, .int .u8 0, .slice none 0 0] 26)).alloc (.cells #[.int .i64 0, .int .i64 0] 31))) := Lib.hid (((Below.refl _ _).alloc (Nat.le_refl _) _).alloc (by simp) _)
  have hw0 : w.heap.size + 1 < ((w.alloc (.cells #[.int .i64 0, .int .u8 0, .int .u8 0, .slice none 0 0] 26)).alloc (.cells #[.int .i64 0, .int .i64 0] 31)).heap.size := by simp
  generalize (w.alloc (.cells #[.int .i64 0, .int .u8 0, .int .u8 0, .slice none 0 0] 26)).alloc (.cells #[.int .i64 0, .int .i64 0] 31) = w0 at *
  go_upto_region 16 with (first | (go_at_call 16; have _chk := V; (with_reducible refine (BD2.out _).mono ?_); rintro e w13 ⟨rfl, hb13⟩; have G := Lib.hid (block_below (at_a0 w12 #[.int .i64 c2, .int .i64 q2] 31) hb13); replace X := Lib.hid (block_below X.out (below_a1 hb13)); replace F := Lib.hid (block_below F.out (below_a1 hb13)); replace Y := Lib.hid (block_below Y.out (below_a1 hb13)); replace R := Lib.hid (R.out.below (below_a1 hb13)); replace V := Lib.hid (V.out.below (below_a1 hb13)); replace K := Lib.hid (nextB K.out (below_a1 hb13)); clear hb13; obtain ⟨y0, y1, y2⟩ := cells3 (Y.out)) | (go_at_call 52; (with_reducible refine (RD.out _).mono ?_); rintro e w1 ⟨rfl, hr1, hb1⟩; have R := Lib.hid hr1; replace X := Lib.hid (block_below X.out (hb1)); replace F := Lib.hid (block_below F.out (hb1)); replace K := Lib.hid (nextB K.out (hb1)); clear hb1; clear hr1) | (go_at_call 53; (with_reducible refine (HD.out _ _ R.out).mono ?_); rintro e w2 ⟨rfl, r2, o2⟩; replace X := Lib.hid (block_only X.out o2 (by omega)); replace F := Lib.hid (block_only F.out o2 (by omega)); replace K := Lib.hid (onlyB K.out o2 (by omega)); clear o2; replace R := Lib.hid r2; have hr2 := R.out.lt; clear r2) | (go_at_call 55; (with_reducible refine (SF.out _ _ (R.out.alloc _)).mono ?_); rintro e w3 ⟨rfl, r3, o3⟩; have Y := Lib.hid (at_a0 w2 #[.int .i64 v, .int .u8 rv.toNat, .int .u8 fl.toNat] 23); replace X := Lib.hid (block_below X.out ((Below.refl w2.heap.size w2).alloc (Nat.le_refl _) (.cells #[.int .i64 v, .int .u8 rv.toNat, .int .u8 fl.toNat] 23))); replace F := Lib.hid (block_below F.out ((Below.refl w2.heap.size w2).alloc (Nat.le_refl _) (.cells #[.int .i64 v, .int .u8 rv.toNat, .int .u8 fl.toNat] 23))); replace K := Lib.hid (nextB K.out ((Below.refl w2.heap.size w2).alloc (Nat.le_refl _) (.cells #[.int .i64 v, .int .u8 rv.toNat, .int .u8 fl.toNat] 23))); replace X := Lib.hid (block_only X.out o3 (by omega)); replace F := Lib.hid (block_only F.out o3 (by omega)); replace Y := Lib.hid (block_only Y.out o3 (by omega)); replace K := Lib.hid (onlyB K.out o3 (by omega)); clear o3; replace R := Lib.hid r3; clear r3) | (go_at_call 54; (with_reducible refine (TK.out _ _ R.out).mono ?_); rintro e w4 ⟨rfl, r4, o4⟩; replace X := Lib.hid (block_only X.out o4 (by omega)); replace F := Lib.hid (block_only F.out o4 (by omega)); replace Y := Lib.hid (block_only Y.out o4 (by omega)); replace K := Lib.hid (onlyB K.out o4 (by omega)); clear o4; replace R := Lib.hid r4; clear r4) | (go_at_call 56; (with_reducible refine (FA.out _ _ R.out).mono ?_); rintro e w5 ⟨rfl, hb5⟩; have F1 := hb5; clear F1; replace X := Lib.hid (block_below X.out (hb5)); replace F := Lib.hid (block_below F.out (hb5)); replace Y := Lib.hid (block_below Y.out (hb5)); replace R := Lib.hid (R.out.below (hb5)); replace K := Lib.hid (nextB K.out (hb5)); clear hb5; have hy5 := (Array.getElem?_eq_some_iff.1 Y.out).1) | (go_at_call 16; (with_reducible refine (BD1.out _).mono ?_); rintro e w6 ⟨rfl, hb6⟩; replace X := Lib.hid (block_below X.out (below_a1 hb6)); replace F := Lib.hid (block_below F.out (below_a1 hb6)); replace Y := Lib.hid (block_below Y.out (below_a1 hb6)); replace R := Lib.hid (R.out.below (below_a1 hb6)); replace K := Lib.hid (nextB K.out (below_a1 hb6)); clear hb6; obtain ⟨y0, y1, y2⟩ := cells3 (Y.out); have hy6 := (Array.getElem?_eq_some_iff.1 Y.out).1; have hr6 := R.out.lt) | (go_at_call 57; (with_reducible refine (WH.out _).mono ?_); rintro e w7 ⟨rfl, hb7⟩; replace X := Lib.hid (block_below X.out (hb7)); replace F := Lib.hid (block_below F.out (hb7)); replace Y := Lib.hid (block_below Y.out (hb7)); replace R := Lib.hid (R.out.below (hb7)); replace K := Lib.hid (nextB K.out (hb7)); clear hb7; have hy7 := (Array.getElem?_eq_some_iff.1 Y.out).1; have hr7 := R.out.lt) | (go_at_call 58; (with_reducible refine (IN.out _).mono ?_); rintro e w9 ⟨rfl, hr9, hb9⟩; have RI := Lib.hid hr9; replace X := Lib.hid (block_below X.out (hb9)); replace F := Lib.hid (block_below F.out (hb9)); replace Y := Lib.hid (block_below Y.out (hb9)); replace R := Lib.hid (R.out.below (hb9)); replace K := Lib.hid (nextB K.out (hb9)); clear hb9; clear hr9; obtain ⟨y0, y1, y2⟩ := cells3 (Y.out)) | (go_at_call 59; (with_reducible refine (SK.out _ _ RI.out).mono ?_); rintro e w10 ⟨rfl, r10, o10⟩; replace X := Lib.hid (block_only X.out o10 (by omega)); replace F := Lib.hid (block_only F.out o10 (by omega)); replace Y := Lib.hid (block_only Y.out o10 (by omega)); replace R := Lib.hid (R.out.only o10 (by omega)); replace K := Lib.hid (onlyB K.out o10 (by omega)); clear o10; replace RI := Lib.hid r10; clear r10; obtain ⟨y0, y1, y2⟩ := cells3 (Y.out); have hr10 := R.out.lt; have hy10 := (Array.getElem?_eq_some_iff.1 Y.out).1; have hk10 := K.out.size) | (go_at_call 60; (with_reducible refine (FR.out _ _ RI.out).mono ?_); rintro e w11 ⟨u, rfl, hv, r11, o11⟩; obtain ⟨a1, cp1, hv1, _, _⟩ := hv.at; rw [List.length_map] at hv1; subst hv1; have V := Lib.hid hv; replace X := Lib.hid (block_only X.out o11 (by omega)); replace F := Lib.hid (block_only F.out o11 (by omega)); replace Y := Lib.hid (block_only Y.out o11 (by omega)); replace R := Lib.hid (R.out.only o11 (by omega)); replace K := Lib.hid (onlyB K.out o11 (by omega)); clear o11; replace RI := Lib.hid r11; clear r11 hv) | (go_at_call 56; (with_reducible refine (FI.out _ _ RI.out).mono ?_); rintro e w12 ⟨rfl, hb12⟩; replace X := Lib.hid (block_below X.out (hb12)); replace F := Lib.hid (block_below F.out (hb12)); replace Y := Lib.hid (block_below Y.out (hb12)); replace R := Lib.hid (R.out.below (hb12)); replace V := Lib.hid (V.out.below (hb12)); replace K := Lib.hid (nextB K.out (hb12)); clear hb12; have hy12 := (Array.getElem?_eq_some_iff.1 Y.out).1))
  obtain ⟨x0, x1, x2, x3⟩ := cells4 (X.out); obtain ⟨xf0, xf1, xf2, xf3⟩ := frees4 (X.out)
  obtain ⟨f0, f1⟩ := cells2 (F.out); obtain ⟨ff0, ff1⟩ := frees2 (F.out)
  obtain ⟨g0, g1⟩ := cells2 (G.out)
  have hg := (Array.getElem?_eq_some_iff.1 G.out).1
  have n1 : w.heap.size ≠ w.heap.size + 1 := by omega
  have n2 : w.heap.size ≠ w12.heap.size := by omega
  have n3 : w.heap.size + 1 ≠ w12.heap.size := by omega
  have XD := Lib.hid X.out
  have FD := Lib.hid F.out
  have KD := Lib.hid K.out
  clear R Y K X F G V RI RD HD SF TK FA BD1 WH IN SK FR FI BD2
  go_region
  go_wp2
  have hc := two_cells (a0 := .int .i64 0) (a1 := .int .u8 0) (a2 := .int .u8 0) (a3 := .slice none 0 0) (d0 := .int .i64 c2) (d1 := .int .i64 q2) XD.out FD.out rfl rfl n1
  exact end_ctc rfl rfl rfl (block_drew hc.1) Try.underlying26 rfl (by kernel_rfl) rfl (block_drew hc.2) Try.underlying31 rfl (by kernel_rfl) ⟨_, rfl, Recs.nil _ _ _ _, (two_below KD.out (Nat.le_refl _) (by omega) _ _ _ _ _ _).drew⟩
set_option maxHeartbeats 8000000 in
set_option maxRecDepth 100000 in
theorem tparse_good_00 (l : List UInt8) (v : Int) (rv fl : UInt8) (n c1 q1 c2 q2 c3 q3 : Int) (m0 m1 m2 m3 m4 m5 m6 i0 i1 i2 : Rd) (body0 body rest : List UInt8) (ok1 ok2 : Bool) (fs : List Fr) (w : World) (h3 : 3 ≤ l.length) (hid : l.take 3 = [73, 68, 51])
    (RD : Hid (∀ w, Calls Try.prog 52 #[.string ⟨l.toArray⟩] w fun e w' => e = .returned (.pointer (some ⟨w.heap.size, 0, none⟩)) ∧ RdAt w' w.heap.size m0 ∧ Below w.heap.size w w'))
    (HD : Hid (∀ b w, RdAt w b m0 → Calls Try.prog 53 #[.pointer (some ⟨b, 0, none⟩)] w fun e w' => e = .returned (.agg #[.int .i64 v, .int .u8 rv.toNat, .int .u8 fl.toNat]) ∧ RdAt w' b m1 ∧ Only b w w'))
    (SF : Hid (∀ b w, RdAt w b m1 → Calls Try.prog 55 #[.pointer (some ⟨b, 0, none⟩)] w fun e w' => e = .returned (.int .i64 n) ∧ RdAt w' b m2 ∧ Only b w w'))
    (TK : Hid (∀ b w, RdAt w b m2 → Calls Try.prog 54 #[.pointer (some ⟨b, 0, none⟩), .int .i64 n] w fun e w' => e = .returned (.string ⟨body0.toArray⟩) ∧ RdAt w' b m3 ∧ Only b w w'))
    (FA : Hid (∀ b w, RdAt w b m3 → Calls Try.prog 56 #[.pointer (some ⟨b, 0, none⟩)] w fun e w' => e = .returned (.agg #[.int .i64 c1, .int .i64 q1]) ∧ Below w.heap.size w w'))
    (WH : Hid (∀ w, Calls Try.prog 57 #[.agg #[.int .i64 v, .int .u8 rv.toNat, .int .u8 fl.toNat]] w fun e w' => e = .returned (.bool false) ∧ Below w.heap.size w w'))
    (EB : body0 = body)
    (IN : Hid (∀ w, Calls Try.prog 58 #[.string ⟨body.toArray⟩, .int .i64 10] w fun e w' => e = .returned (.pointer (some ⟨w.heap.size, 0, none⟩)) ∧ RdAt w' w.heap.size i0 ∧ Below w.heap.size w w'))
    (SK : Hid (∀ b w, RdAt w b i0 → Calls Try.prog 59 #[.agg #[.int .i64 v, .int .u8 rv.toNat, .int .u8 fl.toNat], .pointer (some ⟨b, 0, none⟩)] w (TSkip b i1 w)))
    (FR : Hid (∀ b w, RdAt w b i1 → Calls Try.prog 60 #[.agg #[.int .i64 v, .int .u8 rv.toNat, .int .u8 fl.toNat], .pointer (some ⟨b, 0, none⟩)] w (TFrames b i2 fs w)))
    (FI : Hid (∀ b w, RdAt w b i2 → Calls Try.prog 56 #[.pointer (some ⟨b, 0, none⟩)] w fun e w' => e = .returned (.agg #[.int .i64 c2, .int .i64 q2]) ∧ Below w.heap.size w w'))
    (FT : Hid (∀ w, Calls Try.prog 22 #[.agg #[.int .i64 v, .int .u8 rv.toNat, .int .u8 fl.toNat]] w fun e w' => e = .returned (.bool false) ∧ Below w.heap.size w w'))
    (EM : m3 = m5)
    (FB : Hid (∀ b w, RdAt w b m5 → Calls Try.prog 56 #[.pointer (some ⟨b, 0, none⟩)] w fun e w' => e = .returned (.agg #[.int .i64 c3, .int .i64 q3]) ∧ Below w.heap.size w w'))
    (RS : Hid (∀ b w, RdAt w b m5 → Calls Try.prog 62 #[.pointer (some ⟨b, 0, none⟩)] w fun e w' => e = .returned (.string ⟨rest.toArray⟩) ∧ RdAt w' b m6 ∧ Only b w w'))
    (hc1 : c1 = 0) (hc2 : c2 = 0) (hc3 : c3 = 0) (f2 : UInt8) (e64 : bits .andNot .u8 (fl.toNat : Int) 64 = (f2.toNat : Int)) 
    : Calls Try.prog 17 #[.string ⟨l.toArray⟩] w (TParse ⟨v, rv, f2, fs⟩ rest 0 0 w) := by
  subst EB
  subst EM
  have BD1 := Lib.hid (fun w => bad_any c1 q1 w)
  rw [hc1] at BD1
  rw [show ((0 : Int) != 0) = false by rfl] at BD1
  rw [hc1] at FA
  clear hc1
  have BD2 := Lib.hid (fun w => bad_any c2 q2 w)
  rw [hc2] at BD2
  rw [show ((0 : Int) != 0) = false by rfl] at BD2
  rw [hc2] at FI
  clear hc2
  have BD3 := Lib.hid (fun w => bad_any c3 q3 w)
  rw [hc3] at BD3
  rw [show ((0 : Int) != 0) = false by rfl] at BD3
  rw [hc3] at FB
  clear hc3
  have g3 : ¬ (l.length : Int) < 3 := by omega
  have g4 : (3 : Int) ≤ l.length := by omega
  have t1 : (l.take 3 = [73, 68, 51]) = True := eq_true hid
  have t2 : (l.take 3 == [73, 68, 51]) = true := by simpa using hid
  clear hid
  try unfold TSkip at *
  try unfold TFrames at *
  unfold TParse
  go_enter Try.func17, Try.ntmps17
  go_upto_region 3 with (fail)
  have X := Lib.hid (at_a1 w #[.int .i64 0, .int .u8 0, .int .u8 0, .slice none 0 0] 26 (.cells #[.int .i64 0, .int .i64 0] 31))
  have F := Lib.hid (at_a2 w #[.int .i64 0, .int .i64 0] 31 (.cells #[.int .i64 0, .int .u8 0, .int .u8 0, .slice none 0 0] 26))
  have K : Hid (Below w.heap.size w ((w.alloc (.cells #[.int .i64 0, .int .u8 0, .int .u8 0, .slice none 0 0] 26)).alloc (.cells #[.int .i64 0, .int .i64 0] 31))) := Lib.hid (((Below.refl _ _).alloc (Nat.le_refl _) _).alloc (by simp) _)
  have hw0 : w.heap.size + 1 < ((w.alloc (.cells #[.int .i64 0, .int .u8 0, .int .u8 0, .slice none 0 0] 26)).alloc (.cells #[.int .i64 0, .int .i64 0] 31)).heap.size := by simp
  generalize (w.alloc (.cells #[.int .i64 0, .int .u8 0, .int .u8 0, .slice none 0 0] 26)).alloc (.cells #[.int .i64 0, .int .i64 0] 31) = w0 at *
  go_upto_region 24 with (first | (go_at_call 16; have _chk := H17; (with_reducible refine (BD3.out _).mono ?_); rintro e w18 ⟨rfl, hb18⟩; replace X := Lib.hid (block_below X.out (below_a1 hb18)); replace F := Lib.hid (block_below F.out (below_a1 hb18)); replace Y := Lib.hid (block_below Y.out (below_a1 hb18)); replace R := Lib.hid (R.out.below (below_a1 hb18)); replace V := Lib.hid (V.out.below (below_a1 hb18)); replace K := Lib.hid (nextB K.out (below_a1 hb18)); clear hb18; obtain ⟨y0, y1, y2⟩ := cells3 (Y.out); obtain ⟨yf0, yf1, yf2⟩ := frees3 (Y.out)) | (go_at_call 16; have _chk := V; (with_reducible refine (BD2.out _).mono ?_); rintro e w13 ⟨rfl, hb13⟩; replace X := Lib.hid (block_below X.out (below_a1 hb13)); replace F := Lib.hid (block_below F.out (below_a1 hb13)); replace Y := Lib.hid (block_below Y.out (below_a1 hb13)); replace R := Lib.hid (R.out.below (below_a1 hb13)); replace V := Lib.hid (V.out.below (below_a1 hb13)); replace K := Lib.hid (nextB K.out (below_a1 hb13)); clear hb13; obtain ⟨y0, y1, y2⟩ := cells3 (Y.out)) | (go_at_call 56; have _chk := V; (with_reducible refine (FB.out _ _ R.out).mono ?_); rintro e w17 ⟨rfl, hb17⟩; have H17 := True.intro; replace X := Lib.hid (block_below X.out (hb17)); replace F := Lib.hid (block_below F.out (hb17)); replace Y := Lib.hid (block_below Y.out (hb17)); replace R := Lib.hid (R.out.below (hb17)); replace V := Lib.hid (V.out.below (hb17)); replace K := Lib.hid (nextB K.out (hb17)); clear hb17; have hy17 := (Array.getElem?_eq_some_iff.1 Y.out).1) | (go_at_call 52; (with_reducible refine (RD.out _).mono ?_); rintro e w1 ⟨rfl, hr1, hb1⟩; have R := Lib.hid hr1; replace X := Lib.hid (block_below X.out (hb1)); replace F := Lib.hid (block_below F.out (hb1)); replace K := Lib.hid (nextB K.out (hb1)); clear hb1; clear hr1) | (go_at_call 53; (with_reducible refine (HD.out _ _ R.out).mono ?_); rintro e w2 ⟨rfl, r2, o2⟩; replace X := Lib.hid (block_only X.out o2 (by omega)); replace F := Lib.hid (block_only F.out o2 (by omega)); replace K := Lib.hid (onlyB K.out o2 (by omega)); clear o2; replace R := Lib.hid r2; have hr2 := R.out.lt; clear r2) | (go_at_call 55; (with_reducible refine (SF.out _ _ (R.out.alloc _)).mono ?_); rintro e w3 ⟨rfl, r3, o3⟩; have Y := Lib.hid (at_a0 w2 #[.int .i64 v, .int .u8 rv.toNat, .int .u8 fl.toNat] 23); replace X := Lib.hid (block_below X.out ((Below.refl w2.heap.size w2).alloc (Nat.le_refl _) (.cells #[.int .i64 v, .int .u8 rv.toNat, .int .u8 fl.toNat] 23))); replace F := Lib.hid (block_below F.out ((Below.refl w2.heap.size w2).alloc (Nat.le_refl _) (.cells #[.int .i64 v, .int .u8 rv.toNat, .int .u8 fl.toNat] 23))); replace K := Lib.hid (nextB K.out ((Below.refl w2.heap.size w2).alloc (Nat.le_refl _) (.cells #[.int .i64 v, .int .u8 rv.toNat, .int .u8 fl.toNat] 23))); replace X := Lib.hid (block_only X.out o3 (by omega)); replace F := Lib.hid (block_only F.out o3 (by omega)); replace Y := Lib.hid (block_only Y.out o3 (by omega)); replace K := Lib.hid (onlyB K.out o3 (by omega)); clear o3; replace R := Lib.hid r3; clear r3) | (go_at_call 54; (with_reducible refine (TK.out _ _ R.out).mono ?_); rintro e w4 ⟨rfl, r4, o4⟩; replace X := Lib.hid (block_only X.out o4 (by omega)); replace F := Lib.hid (block_only F.out o4 (by omega)); replace Y := Lib.hid (block_only Y.out o4 (by omega)); replace K := Lib.hid (onlyB K.out o4 (by omega)); clear o4; replace R := Lib.hid r4; clear r4) | (go_at_call 56; (with_reducible refine (FA.out _ _ R.out).mono ?_); rintro e w5 ⟨rfl, hb5⟩; have F1 := hb5; clear F1; replace X := Lib.hid (block_below X.out (hb5)); replace F := Lib.hid (block_below F.out (hb5)); replace Y := Lib.hid (block_below Y.out (hb5)); replace R := Lib.hid (R.out.below (hb5)); replace K := Lib.hid (nextB K.out (hb5)); clear hb5; have hy5 := (Array.getElem?_eq_some_iff.1 Y.out).1) | (go_at_call 16; (with_reducible refine (BD1.out _).mono ?_); rintro e w6 ⟨rfl, hb6⟩; replace X := Lib.hid (block_below X.out (below_a1 hb6)); replace F := Lib.hid (block_below F.out (below_a1 hb6)); replace Y := Lib.hid (block_below Y.out (below_a1 hb6)); replace R := Lib.hid (R.out.below (below_a1 hb6)); replace K := Lib.hid (nextB K.out (below_a1 hb6)); clear hb6; obtain ⟨y0, y1, y2⟩ := cells3 (Y.out); have hy6 := (Array.getElem?_eq_some_iff.1 Y.out).1; have hr6 := R.out.lt) | (go_at_call 57; (with_reducible refine (WH.out _).mono ?_); rintro e w7 ⟨rfl, hb7⟩; replace X := Lib.hid (block_below X.out (hb7)); replace F := Lib.hid (block_below F.out (hb7)); replace Y := Lib.hid (block_below Y.out (hb7)); replace R := Lib.hid (R.out.below (hb7)); replace K := Lib.hid (nextB K.out (hb7)); clear hb7; have hy7 := (Array.getElem?_eq_some_iff.1 Y.out).1; have hr7 := R.out.lt) | (go_at_call 58; (with_reducible refine (IN.out _).mono ?_); rintro e w9 ⟨rfl, hr9, hb9⟩; have RI := Lib.hid hr9; replace X := Lib.hid (block_below X.out (hb9)); replace F := Lib.hid (block_below F.out (hb9)); replace Y := Lib.hid (block_below Y.out (hb9)); replace R := Lib.hid (R.out.below (hb9)); replace K := Lib.hid (nextB K.out (hb9)); clear hb9; clear hr9; obtain ⟨y0, y1, y2⟩ := cells3 (Y.out)) | (go_at_call 59; (with_reducible refine (SK.out _ _ RI.out).mono ?_); rintro e w10 ⟨rfl, r10, o10⟩; replace X := Lib.hid (block_only X.out o10 (by omega)); replace F := Lib.hid (block_only F.out o10 (by omega)); replace Y := Lib.hid (block_only Y.out o10 (by omega)); replace R := Lib.hid (R.out.only o10 (by omega)); replace K := Lib.hid (onlyB K.out o10 (by omega)); clear o10; replace RI := Lib.hid r10; clear r10; obtain ⟨y0, y1, y2⟩ := cells3 (Y.out); have hr10 := R.out.lt; have hy10 := (Array.getElem?_eq_some_iff.1 Y.out).1; have hk10 := K.out.size) | (go_at_call 60; (with_reducible refine (FR.out _ _ RI.out).mono ?_); rintro e w11 ⟨u, rfl, hv, r11, o11⟩; obtain ⟨a1, cp1, hv1, _, _⟩ := hv.at; rw [List.length_map] at hv1; subst hv1; have V := Lib.hid hv; replace X := Lib.hid (block_only X.out o11 (by omega)); replace F := Lib.hid (block_only F.out o11 (by omega)); replace Y := Lib.hid (block_only Y.out o11 (by omega)); replace R := Lib.hid (R.out.only o11 (by omega)); replace K := Lib.hid (onlyB K.out o11 (by omega)); clear o11; replace RI := Lib.hid r11; clear r11 hv) | (go_at_call 56; (with_reducible refine (FI.out _ _ RI.out).mono ?_); rintro e w12 ⟨rfl, hb12⟩; replace X := Lib.hid (block_below X.out (hb12)); replace F := Lib.hid (block_below F.out (hb12)); replace Y := Lib.hid (block_below Y.out (hb12)); replace R := Lib.hid (R.out.below (hb12)); replace V := Lib.hid (V.out.below (hb12)); replace K := Lib.hid (nextB K.out (hb12)); clear hb12; have hy12 := (Array.getElem?_eq_some_iff.1 Y.out).1) | (go_at_call 22; (with_reducible refine (FT.out _).mono ?_); rintro e w14 ⟨rfl, hb14⟩; replace X := Lib.hid (block_below X.out (hb14)); replace F := Lib.hid (block_below F.out (hb14)); replace Y := Lib.hid (block_below Y.out (hb14)); replace R := Lib.hid (R.out.below (hb14)); replace V := Lib.hid (V.out.below (hb14)); replace K := Lib.hid (nextB K.out (hb14)); clear hb14))
  obtain ⟨x0, x1, x2, x3⟩ := cells4 (X.out); obtain ⟨xf0, xf1, xf2, xf3⟩ := frees4 (X.out)
  obtain ⟨f0, f1⟩ := cells2 (F.out); obtain ⟨ff0, ff1⟩ := frees2 (F.out)
  clear y0 y1 y2 yf0 yf1 yf2
  replace Y : Hid ((w18.setCell ⟨w2.heap.size, 2, none⟩ (.int .u8 f2.toNat)).heap[w2.heap.size]? = some (.cells #[.int .i64 v, .int .u8 rv.toNat, .int .u8 f2.toNat] 23 (0, 0))) := Lib.hid (setCell_at (j := 2) (v := .int .u8 f2.toNat) Y.out)
  replace X := Lib.hid ((heap_set_other (b := w.heap.size) (c := w2.heap.size) (j := 2) (.int .u8 f2.toNat) (by omega)).trans X.out)
  replace F := Lib.hid ((heap_set_other (b := w.heap.size + 1) (c := w2.heap.size) (j := 2) (.int .u8 f2.toNat) (by omega)).trans F.out)
  replace R := Lib.hid (R.out.only (Only.set (b := w2.heap.size) (j := 2) (.int .u8 f2.toNat)) (by omega))
  replace V := Lib.hid (V.out.onlyT (Only.set (b := w2.heap.size) (j := 2) (.int .u8 f2.toNat)) (by omega))
  replace K := Lib.hid (Below.setCell (p := ⟨w2.heap.size, 2, none⟩) K.out (by show w.heap.size ≤ w2.heap.size; omega) (.int .u8 f2.toNat))
  generalize w18.setCell ⟨w2.heap.size, 2, none⟩ (.int .u8 f2.toNat) = v0 at *
  clear x0 x1 x2 x3 xf0 xf1 xf2 xf3 f0 f1 ff0 ff1 e64
  have cc : v0.cell? ⟨w2.heap.size, 0, none⟩ = some (.int .i64 v) ∧ v0.cell? ⟨w2.heap.size, 1, none⟩ = some (.int .u8 rv.toNat) ∧ v0.cell? ⟨w2.heap.size, 2, none⟩ = some (.int .u8 f2.toNat) := ⟨cell_at (j := 0) (Y.out), cell_at (j := 1) (Y.out), cell_at (j := 2) (Y.out)⟩
  have n1 : w.heap.size ≠ w.heap.size + 1 := by omega
  have n2 : w2.heap.size ≠ w.heap.size := by omega
  have n3 : w2.heap.size ≠ w.heap.size + 1 := by omega
  clear g3 g4 t1 t2
  have ccd : (World.drew v0).cell? ⟨w2.heap.size, 0, none⟩ = some (.int .i64 v) ∧ (World.drew v0).cell? ⟨w2.heap.size, 1, none⟩ = some (.int .u8 rv.toNat) ∧ (World.drew v0).cell? ⟨w2.heap.size, 2, none⟩ = some (.int .u8 f2.toNat) := cc
  go_region_held3 (fun w' => w'.cell? ⟨w2.heap.size, 0, none⟩ = some (.int .i64 v) ∧ w'.cell? ⟨w2.heap.size, 1, none⟩ = some (.int .u8 rv.toNat) ∧ w'.cell? ⟨w2.heap.size, 2, none⟩ = some (.int .u8 f2.toNat)) (first | with_reducible exact ccd | with_reducible exact x19 | with_reducible exact keepS n2 (keepS n2 (keepS n2 (keepS n2 x19))) | with_reducible exact keepS n3 (keepS n3 (keepS n2 (keepS n2 (keepS n2 (keepS n2 x19))))) | fail)
    (first | (go_at_call 62; (with_reducible refine (RS.out _ (World.drew v0) R.out.drew).mono ?_); rintro e w19 ⟨rfl, r19, o19⟩; have o20 := fr_drewO o19; have x19 : w19.cell? ⟨w2.heap.size, 0, none⟩ = some (.int .i64 v) ∧ w19.cell? ⟨w2.heap.size, 1, none⟩ = some (.int .u8 rv.toNat) ∧ w19.cell? ⟨w2.heap.size, 2, none⟩ = some (.int .u8 f2.toNat) := ⟨cell_at (j := 0) (block_only Y.out o20 (by omega)), cell_at (j := 1) (block_only Y.out o20 (by omega)), cell_at (j := 2) (block_only Y.out o20 (by omega))⟩; replace X := Lib.hid (block_only X.out o20 (by omega)); replace F := Lib.hid (block_only F.out o20 (by omega)); replace V := Lib.hid (V.out.onlyT o20 (by omega)); replace K := Lib.hid (onlyB K.out o20 (by omega)); obtain ⟨x0, x1, x2, x3⟩ := cells4 (X.out); obtain ⟨xf0, xf1, xf2, xf3⟩ := frees4 (X.out); obtain ⟨f0, f1⟩ := cells2 (F.out); obtain ⟨ff0, ff1⟩ := frees2 (F.out); clear r19 o19 o20))
  go_wp2
  have hc := two_cells (a0 := .int .i64 v) (a1 := .int .u8 rv.toNat) (a2 := .int .u8 f2.toNat) (a3 := .slice a1 fs.length cp1) (d0 := .int .i64 0) (d1 := .int .i64 0) X.out F.out rfl rfl n1
  refine end_ctc rfl rfl rfl hc.1 Try.underlying26 rfl (by kernel_rfl) rfl hc.2 Try.underlying31 rfl (by kernel_rfl) ⟨_, rfl, ?_, two_below K.out (Nat.le_refl _) (by omega) _ _ _ _ _ _⟩
  exact ((((((V.out.onlyT (Only.set _) (by omega)).onlyT (Only.set _) (by omega)).onlyT (Only.set _) (by omega)).onlyT (Only.set _) (by omega)).onlyT (Only.set _) (by omega)).onlyT (Only.set _) (by omega)).base (by omega)
set_option maxHeartbeats 8000000 in
set_option maxRecDepth 100000 in
theorem tparse_bad3_0 (l : List UInt8) (v : Int) (rv fl : UInt8) (n c1 q1 c2 q2 c3 q3 : Int) (m0 m1 m2 m3 m4 m5 m6 i0 i1 i2 : Rd) (body0 body rest : List UInt8) (ok1 ok2 : Bool) (fs : List Fr) (w : World) (h3 : 3 ≤ l.length) (hid : l.take 3 = [73, 68, 51])
    (RD : Hid (∀ w, Calls Try.prog 52 #[.string ⟨l.toArray⟩] w fun e w' => e = .returned (.pointer (some ⟨w.heap.size, 0, none⟩)) ∧ RdAt w' w.heap.size m0 ∧ Below w.heap.size w w'))
    (HD : Hid (∀ b w, RdAt w b m0 → Calls Try.prog 53 #[.pointer (some ⟨b, 0, none⟩)] w fun e w' => e = .returned (.agg #[.int .i64 v, .int .u8 rv.toNat, .int .u8 fl.toNat]) ∧ RdAt w' b m1 ∧ Only b w w'))
    (SF : Hid (∀ b w, RdAt w b m1 → Calls Try.prog 55 #[.pointer (some ⟨b, 0, none⟩)] w fun e w' => e = .returned (.int .i64 n) ∧ RdAt w' b m2 ∧ Only b w w'))
    (TK : Hid (∀ b w, RdAt w b m2 → Calls Try.prog 54 #[.pointer (some ⟨b, 0, none⟩), .int .i64 n] w fun e w' => e = .returned (.string ⟨body0.toArray⟩) ∧ RdAt w' b m3 ∧ Only b w w'))
    (FA : Hid (∀ b w, RdAt w b m3 → Calls Try.prog 56 #[.pointer (some ⟨b, 0, none⟩)] w fun e w' => e = .returned (.agg #[.int .i64 c1, .int .i64 q1]) ∧ Below w.heap.size w w'))
    (WH : Hid (∀ w, Calls Try.prog 57 #[.agg #[.int .i64 v, .int .u8 rv.toNat, .int .u8 fl.toNat]] w fun e w' => e = .returned (.bool false) ∧ Below w.heap.size w w'))
    (EB : body0 = body)
    (IN : Hid (∀ w, Calls Try.prog 58 #[.string ⟨body.toArray⟩, .int .i64 10] w fun e w' => e = .returned (.pointer (some ⟨w.heap.size, 0, none⟩)) ∧ RdAt w' w.heap.size i0 ∧ Below w.heap.size w w'))
    (SK : Hid (∀ b w, RdAt w b i0 → Calls Try.prog 59 #[.agg #[.int .i64 v, .int .u8 rv.toNat, .int .u8 fl.toNat], .pointer (some ⟨b, 0, none⟩)] w (TSkip b i1 w)))
    (FR : Hid (∀ b w, RdAt w b i1 → Calls Try.prog 60 #[.agg #[.int .i64 v, .int .u8 rv.toNat, .int .u8 fl.toNat], .pointer (some ⟨b, 0, none⟩)] w (TFrames b i2 fs w)))
    (FI : Hid (∀ b w, RdAt w b i2 → Calls Try.prog 56 #[.pointer (some ⟨b, 0, none⟩)] w fun e w' => e = .returned (.agg #[.int .i64 c2, .int .i64 q2]) ∧ Below w.heap.size w w'))
    (FT : Hid (∀ w, Calls Try.prog 22 #[.agg #[.int .i64 v, .int .u8 rv.toNat, .int .u8 fl.toNat]] w fun e w' => e = .returned (.bool true) ∧ Below w.heap.size w w'))
    (W1 : Hid (∀ b w, RdAt w b m3 → Calls Try.prog 61 #[.pointer (some ⟨b, 0, none⟩), .string ⟨#[51, 68, 73]⟩] w fun e w' => e = .returned (.bool ok1) ∧ RdAt w' b m4 ∧ Only b w w'))
    (W2 : Hid (∀ b w, RdAt w b m4 → Calls Try.prog 61 #[.pointer (some ⟨b, 0, none⟩), .string ⟨((l.drop 3).take 7).toArray⟩] w fun e w' => e = .returned (.bool ok2) ∧ RdAt w' b m5 ∧ Only b w w'))
    (FB : Hid (∀ b w, RdAt w b m5 → Calls Try.prog 56 #[.pointer (some ⟨b, 0, none⟩)] w fun e w' => e = .returned (.agg #[.int .i64 c3, .int .i64 q3]) ∧ Below w.heap.size w w'))
    (hc1 : c1 = 0) (hc2 : c2 = 0) (hc3 : c3 ≠ 0) (h10 : 10 ≤ l.length)
    : Calls Try.prog 17 #[.string ⟨l.toArray⟩] w (TParse zeroT [] c3 q3 w) := by
  subst EB
  have g10 : (10 : Int) ≤ l.length := by omega
  have BD1 := Lib.hid (fun w => bad_any c1 q1 w)
  rw [hc1] at BD1
  rw [show ((0 : Int) != 0) = false by rfl] at BD1
  rw [hc1] at FA
  clear hc1
  have BD2 := Lib.hid (fun w => bad_any c2 q2 w)
  rw [hc2] at BD2
  rw [show ((0 : Int) != 0) = false by rfl] at BD2
  rw [hc2] at FI
  clear hc2
  have BD3 := Lib.hid (fun w => bad_any c3 q3 w)
  rw [show (c3 != 0) = true by simpa using hc3] at BD3
  clear hc3
  have g3 : ¬ (l.length : Int) < 3 := by omega
  have g4 : (3 : Int) ≤ l.length := by omega
  have t1 : (l.take 3 = [73, 68, 51]) = True := eq_true hid
  have t2 : (l.take 3 == [73, 68, 51]) = true := by simpa using hid
  clear hid
  try unfold TSkip at *
  try unfold TFrames at *
  unfold TParse
  go_enter Try.func17, Try.ntmps17
  go_upto_region 3 with (fail)
  have X := Lib.hid (at_a1 w #[.int .i64 0, .int .u8 0, .int .u8 0, .slice none 0 0] 26 (.cells #[.int .i64 0, .int .i64 0] 31))
  have F := Lib.hid (at_a2 w #[.int .i64 0, .int .i64 0] 31 (.cells #[.int .i64 0, .int .u8 0, .int .u8 0, .slice none 0 0] 26))
  have K : Hid (Below w.heap.size w ((w.alloc (.cells #[.int .i64 0, .int .u8 0, .int .u8 0, .slice none 0 0] 26)).alloc (.cells #[.int .i64 0, .int .i64 0] 31))) := Lib.hid (((Below.refl _ _).alloc (Nat.le_refl _) _).alloc (by simp) _)
  have hw0 : w.heap.size + 1 < ((w.alloc (.cells #[.int .i64 0, .int .u8 0, .int .u8 0, .slice none 0 0] 26)).alloc (.cells #[.int .i64 0, .int .i64 0] 31)).heap.size := by simp
  generalize (w.alloc (.cells #[.int .i64 0, .int .u8 0, .int .u8 0, .slice none 0 0] 26)).alloc (.cells #[.int .i64 0, .int .i64 0] 31) = w0 at *
  go_upto_region 22 with (first | (go_at_call 16; have _chk := H17; (with_reducible refine (BD3.out _).mono ?_); rintro e w18 ⟨rfl, hb18⟩; have G := Lib.hid (block_below (at_a0 w17 #[.int .i64 c3, .int .i64 q3] 31) hb18); replace X := Lib.hid (block_below X.out (below_a1 hb18)); replace F := Lib.hid (block_below F.out (below_a1 hb18)); replace Y := Lib.hid (block_below Y.out (below_a1 hb18)); replace R := Lib.hid (R.out.below (below_a1 hb18)); replace V := Lib.hid (V.out.below (below_a1 hb18)); replace K := Lib.hid (nextB K.out (below_a1 hb18)); clear hb18; obtain ⟨y0, y1, y2⟩ := cells3 (Y.out); obtain ⟨yf0, yf1, yf2⟩ := frees3 (Y.out)) | (go_at_call 16; have _chk := V; (with_reducible refine (BD2.out _).mono ?_); rintro e w13 ⟨rfl, hb13⟩; replace X := Lib.hid (block_below X.out (below_a1 hb13)); replace F := Lib.hid (block_below F.out (below_a1 hb13)); replace Y := Lib.hid (block_below Y.out (below_a1 hb13)); replace R := Lib.hid (R.out.below (below_a1 hb13)); replace V := Lib.hid (V.out.below (below_a1 hb13)); replace K := Lib.hid (nextB K.out (below_a1 hb13)); clear hb13; obtain ⟨y0, y1, y2⟩ := cells3 (Y.out)) | (go_at_call 56; have _chk := V; (with_reducible refine (FB.out _ _ R.out).mono ?_); rintro e w17 ⟨rfl, hb17⟩; have H17 := True.intro; replace X := Lib.hid (block_below X.out (hb17)); replace F := Lib.hid (block_below F.out (hb17)); replace Y := Lib.hid (block_below Y.out (hb17)); replace R := Lib.hid (R.out.below (hb17)); replace V := Lib.hid (V.out.below (hb17)); replace K := Lib.hid (nextB K.out (hb17)); clear hb17; have hy17 := (Array.getElem?_eq_some_iff.1 Y.out).1) | (go_at_call 52; (with_reducible refine (RD.out _).mono ?_); rintro e w1 ⟨rfl, hr1, hb1⟩; have R := Lib.hid hr1; replace X := Lib.hid (block_below X.out (hb1)); replace F := Lib.hid (block_below F.out (hb1)); replace K := Lib.hid (nextB K.out (hb1)); clear hb1; clear hr1) | (go_at_call 53; (with_reducible refine (HD.out _ _ R.out).mono ?_); rintro e w2 ⟨rfl, r2, o2⟩; replace X := Lib.hid (block_only X.out o2 (by omega)); replace F := Lib.hid (block_only F.out o2 (by omega)); replace K := Lib.hid (onlyB K.out o2 (by omega)); clear o2; replace R := Lib.hid r2; have hr2 := R.out.lt; clear r2) | (go_at_call 55; (with_reducible refine (SF.out _ _ (R.out.alloc _)).mono ?_); rintro e w3 ⟨rfl, r3, o3⟩; have Y := Lib.hid (at_a0 w2 #[.int .i64 v, .int .u8 rv.toNat, .int .u8 fl.toNat] 23); replace X := Lib.hid (block_below X.out ((Below.refl w2.heap.size w2).alloc (Nat.le_refl _) (.cells #[.int .i64 v, .int .u8 rv.toNat, .int .u8 fl.toNat] 23))); replace F := Lib.hid (block_below F.out ((Below.refl w2.heap.size w2).alloc (Nat.le_refl _) (.cells #[.int .i64 v, .int .u8 rv.toNat, .int .u8 fl.toNat] 23))); replace K := Lib.hid (nextB K.out ((Below.refl w2.heap.size w2).alloc (Nat.le_refl _) (.cells #[.int .i64 v, .int .u8 rv.toNat, .int .u8 fl.toNat] 23))); replace X := Lib.hid (block_only X.out o3 (by omega)); replace F := Lib.hid (block_only F.out o3 (by omega)); replace Y := Lib.hid (block_only Y.out o3 (by omega)); replace K := Lib.hid (onlyB K.out o3 (by omega)); clear o3; replace R := Lib.hid r3; clear r3) | (go_at_call 54; (with_reducible refine (TK.out _ _ R.out).mono ?_); rintro e w4 ⟨rfl, r4, o4⟩; replace X := Lib.hid (block_only X.out o4 (by omega)); replace F := Lib.hid (block_only F.out o4 (by omega)); replace Y := Lib.hid (block_only Y.out o4 (by omega)); replace K := Lib.hid (onlyB K.out o4 (by omega)); clear o4; replace R := Lib.hid r4; clear r4) | (go_at_call 56; (with_reducible refine (FA.out _ _ R.out).mono ?_); rintro e w5 ⟨rfl, hb5⟩; have F1 := hb5; clear F1; replace X := Lib.hid (block_below X.out (hb5)); replace F := Lib.hid (block_below F.out (hb5)); replace Y := Lib.hid (block_below Y.out (hb5)); replace R := Lib.hid (R.out.below (hb5)); replace K := Lib.hid (nextB K.out (hb5)); clear hb5; have hy5 := (Array.getElem?_eq_some_iff.1 Y.out).1) | (go_at_call 16; (with_reducible refine (BD1.out _).mono ?_); rintro e w6 ⟨rfl, hb6⟩; replace X := Lib.hid (block_below X.out (below_a1 hb6)); replace F := Lib.hid (block_below F.out (below_a1 hb6)); replace Y := Lib.hid (block_below Y.out (below_a1 hb6)); replace R := Lib.hid (R.out.below (below_a1 hb6)); replace K := Lib.hid (nextB K.out (below_a1 hb6)); clear hb6; obtain ⟨y0, y1, y2⟩ := cells3 (Y.out); have hy6 := (Array.getElem?_eq_some_iff.1 Y.out).1; have hr6 := R.out.lt) | (go_at_call 57; (with_reducible refine (WH.out _).mono ?_); rintro e w7 ⟨rfl, hb7⟩; replace X := Lib.hid (block_below X.out (hb7)); replace F := Lib.hid (block_below F.out (hb7)); replace Y := Lib.hid (block_below Y.out (hb7)); replace R := Lib.hid (R.out.below (hb7)); replace K := Lib.hid (nextB K.out (hb7)); clear hb7; have hy7 := (Array.getElem?_eq_some_iff.1 Y.out).1; have hr7 := R.out.lt) | (go_at_call 58; (with_reducible refine (IN.out _).mono ?_); rintro e w9 ⟨rfl, hr9, hb9⟩; have RI := Lib.hid hr9; replace X := Lib.hid (block_below X.out (hb9)); replace F := Lib.hid (block_below F.out (hb9)); replace Y := Lib.hid (block_below Y.out (hb9)); replace R := Lib.hid (R.out.below (hb9)); replace K := Lib.hid (nextB K.out (hb9)); clear hb9; clear hr9; obtain ⟨y0, y1, y2⟩ := cells3 (Y.out)) | (go_at_call 59; (with_reducible refine (SK.out _ _ RI.out).mono ?_); rintro e w10 ⟨rfl, r10, o10⟩; replace X := Lib.hid (block_only X.out o10 (by omega)); replace F := Lib.hid (block_only F.out o10 (by omega)); replace Y := Lib.hid (block_only Y.out o10 (by omega)); replace R := Lib.hid (R.out.only o10 (by omega)); replace K := Lib.hid (onlyB K.out o10 (by omega)); clear o10; replace RI := Lib.hid r10; clear r10; obtain ⟨y0, y1, y2⟩ := cells3 (Y.out); have hr10 := R.out.lt; have hy10 := (Array.getElem?_eq_some_iff.1 Y.out).1; have hk10 := K.out.size) | (go_at_call 60; (with_reducible refine (FR.out _ _ RI.out).mono ?_); rintro e w11 ⟨u, rfl, hv, r11, o11⟩; obtain ⟨a1, cp1, hv1, _, _⟩ := hv.at; rw [List.length_map] at hv1; subst hv1; have V := Lib.hid hv; replace X := Lib.hid (block_only X.out o11 (by omega)); replace F := Lib.hid (block_only F.out o11 (by omega)); replace Y := Lib.hid (block_only Y.out o11 (by omega)); replace R := Lib.hid (R.out.only o11 (by omega)); replace K := Lib.hid (onlyB K.out o11 (by omega)); clear o11; replace RI := Lib.hid r11; clear r11 hv) | (go_at_call 56; (with_reducible refine (FI.out _ _ RI.out).mono ?_); rintro e w12 ⟨rfl, hb12⟩; replace X := Lib.hid (block_below X.out (hb12)); replace F := Lib.hid (block_below F.out (hb12)); replace Y := Lib.hid (block_below Y.out (hb12)); replace R := Lib.hid (R.out.below (hb12)); replace V := Lib.hid (V.out.below (hb12)); replace K := Lib.hid (nextB K.out (hb12)); clear hb12; have hy12 := (Array.getElem?_eq_some_iff.1 Y.out).1) | (go_at_call 22; (with_reducible refine (FT.out _).mono ?_); rintro e w14 ⟨rfl, hb14⟩; replace X := Lib.hid (block_below X.out (hb14)); replace F := Lib.hid (block_below F.out (hb14)); replace Y := Lib.hid (block_below Y.out (hb14)); replace R := Lib.hid (R.out.below (hb14)); replace V := Lib.hid (V.out.below (hb14)); replace K := Lib.hid (nextB K.out (hb14)); clear hb14) | (go_at_call 61; (with_reducible refine (W1.out _ _ R.out).mono ?_); rintro e w15 ⟨rfl, r15, o15⟩; replace X := Lib.hid (block_only X.out o15 (by omega)); replace F := Lib.hid (block_only F.out o15 (by omega)); replace Y := Lib.hid (block_only Y.out o15 (by omega)); replace V := Lib.hid (V.out.onlyT o15 (by omega)); replace K := Lib.hid (onlyB K.out o15 (by omega)); clear o15; replace R := Lib.hid r15; clear r15) | (go_at_call 61; (with_reducible refine (W2.out _ _ R.out).mono ?_); rintro e w16 ⟨rfl, r16, o16⟩; replace X := Lib.hid (block_only X.out o16 (by omega)); replace F := Lib.hid (block_only F.out o16 (by omega)); replace Y := Lib.hid (block_only Y.out o16 (by omega)); replace V := Lib.hid (V.out.onlyT o16 (by omega)); replace K := Lib.hid (onlyB K.out o16 (by omega)); clear o16; replace R := Lib.hid r16; clear r16))
  obtain ⟨x0, x1, x2, x3⟩ := cells4 (X.out); obtain ⟨xf0, xf1, xf2, xf3⟩ := frees4 (X.out)
  obtain ⟨f0, f1⟩ := cells2 (F.out); obtain ⟨ff0, ff1⟩ := frees2 (F.out)
  obtain ⟨g0, g1⟩ := cells2 (G.out)
  have hg := (Array.getElem?_eq_some_iff.1 G.out).1
  have n1 : w.heap.size ≠ w.heap.size + 1 := by omega
  have n2 : w.heap.size ≠ w17.heap.size := by omega
  have n3 : w.heap.size + 1 ≠ w17.heap.size := by omega
  have XD := Lib.hid X.out
  have FD := Lib.hid F.out
  have KD := Lib.hid K.out
  clear R Y K X F G V RI RD HD SF TK FA BD1 WH IN SK FR FI BD2 FT W1 W2 FB BD3
  go_region
  go_wp2
  have hc := two_cells (a0 := .int .i64 0) (a1 := .int .u8 0) (a2 := .int .u8 0) (a3 := .slice none 0 0) (d0 := .int .i64 c3) (d1 := .int .i64 q3) XD.out FD.out rfl rfl n1
  exact end_ctc rfl rfl rfl (block_drew hc.1) Try.underlying26 rfl (by kernel_rfl) rfl (block_drew hc.2) Try.underlying31 rfl (by kernel_rfl) ⟨_, rfl, Recs.nil _ _ _ _, (two_below KD.out (Nat.le_refl _) (by omega) _ _ _ _ _ _).drew⟩
set_option maxHeartbeats 8000000 in
set_option maxRecDepth 100000 in
theorem tparse_good_01 (l : List UInt8) (v : Int) (rv fl : UInt8) (n c1 q1 c2 q2 c3 q3 : Int) (m0 m1 m2 m3 m4 m5 m6 i0 i1 i2 : Rd) (body0 body rest : List UInt8) (ok1 ok2 : Bool) (fs : List Fr) (w : World) (h3 : 3 ≤ l.length) (hid : l.take 3 = [73, 68, 51])
    (RD : Hid (∀ w, Calls Try.prog 52 #[.string ⟨l.toArray⟩] w fun e w' => e = .returned (.pointer (some ⟨w.heap.size, 0, none⟩)) ∧ RdAt w' w.heap.size m0 ∧ Below w.heap.size w w'))
    (HD : Hid (∀ b w, RdAt w b m0 → Calls Try.prog 53 #[.pointer (some ⟨b, 0, none⟩)] w fun e w' => e = .returned (.agg #[.int .i64 v, .int .u8 rv.toNat, .int .u8 fl.toNat]) ∧ RdAt w' b m1 ∧ Only b w w'))
    (SF : Hid (∀ b w, RdAt w b m1 → Calls Try.prog 55 #[.pointer (some ⟨b, 0, none⟩)] w fun e w' => e = .returned (.int .i64 n) ∧ RdAt w' b m2 ∧ Only b w w'))
    (TK : Hid (∀ b w, RdAt w b m2 → Calls Try.prog 54 #[.pointer (some ⟨b, 0, none⟩), .int .i64 n] w fun e w' => e = .returned (.string ⟨body0.toArray⟩) ∧ RdAt w' b m3 ∧ Only b w w'))
    (FA : Hid (∀ b w, RdAt w b m3 → Calls Try.prog 56 #[.pointer (some ⟨b, 0, none⟩)] w fun e w' => e = .returned (.agg #[.int .i64 c1, .int .i64 q1]) ∧ Below w.heap.size w w'))
    (WH : Hid (∀ w, Calls Try.prog 57 #[.agg #[.int .i64 v, .int .u8 rv.toNat, .int .u8 fl.toNat]] w fun e w' => e = .returned (.bool false) ∧ Below w.heap.size w w'))
    (EB : body0 = body)
    (IN : Hid (∀ w, Calls Try.prog 58 #[.string ⟨body.toArray⟩, .int .i64 10] w fun e w' => e = .returned (.pointer (some ⟨w.heap.size, 0, none⟩)) ∧ RdAt w' w.heap.size i0 ∧ Below w.heap.size w w'))
    (SK : Hid (∀ b w, RdAt w b i0 → Calls Try.prog 59 #[.agg #[.int .i64 v, .int .u8 rv.toNat, .int .u8 fl.toNat], .pointer (some ⟨b, 0, none⟩)] w (TSkip b i1 w)))
    (FR : Hid (∀ b w, RdAt w b i1 → Calls Try.prog 60 #[.agg #[.int .i64 v, .int .u8 rv.toNat, .int .u8 fl.toNat], .pointer (some ⟨b, 0, none⟩)] w (TFrames b i2 fs w)))
    (FI : Hid (∀ b w, RdAt w b i2 → Calls Try.prog 56 #[.pointer (some ⟨b, 0, none⟩)] w fun e w' => e = .returned (.agg #[.int .i64 c2, .int .i64 q2]) ∧ Below w.heap.size w w'))
    (FT : Hid (∀ w, Calls Try.prog 22 #[.agg #[.int .i64 v, .int .u8 rv.toNat, .int .u8 fl.toNat]] w fun e w' => e = .returned (.bool true) ∧ Below w.heap.size w w'))
    (W1 : Hid (∀ b w, RdAt w b m3 → Calls Try.prog 61 #[.pointer (some ⟨b, 0, none⟩), .string ⟨#[51, 68, 73]⟩] w fun e w' => e = .returned (.bool ok1) ∧ RdAt w' b m4 ∧ Only b w w'))
    (W2 : Hid (∀ b w, RdAt w b m4 → Calls Try.prog 61 #[.pointer (some ⟨b, 0, none⟩), .string ⟨((l.drop 3).take 7).toArray⟩] w fun e w' => e = .returned (.bool ok2) ∧ RdAt w' b m5 ∧ Only b w w'))
    (FB : Hid (∀ b w, RdAt w b m5 → Calls Try.prog 56 #[.pointer (some ⟨b, 0, none⟩)] w fun e w' => e = .returned (.agg #[.int .i64 c3, .int .i64 q3]) ∧ Below w.heap.size w w'))
    (RS : Hid (∀ b w, RdAt w b m5 → Calls Try.prog 62 #[.pointer (some ⟨b, 0, none⟩)] w fun e w' => e = .returned (.string ⟨rest.toArray⟩) ∧ RdAt w' b m6 ∧ Only b w w'))
    (hc1 : c1 = 0) (hc2 : c2 = 0) (hc3 : c3 = 0) (f2 : UInt8) (e64 : bits .andNot .u8 (fl.toNat : Int) 64 = (f2.toNat : Int)) (h10 : 10 ≤ l.length)
    : Calls Try.prog 17 #[.string ⟨l.toArray⟩] w (TParse ⟨v, rv, f2, fs⟩ rest 0 0 w) := by
  subst EB
  have g10 : (10 : Int) ≤ l.length := by omega
  have BD1 := Lib.hid (fun w => bad_any c1 q1 w)
  rw [hc1] at BD1
  rw [show ((0 : Int) != 0) = false by rfl] at BD1
  rw [hc1] at FA
  clear hc1
  have BD2 := Lib.hid (fun w => bad_any c2 q2 w)
  rw [hc2] at BD2
  rw [show ((0 : Int) != 0) = false by rfl] at BD2
  rw [hc2] at FI
  clear hc2
  have BD3 := Lib.hid (fun w => bad_any c3 q3 w)
  rw [hc3] at BD3
  rw [show ((0 : Int) != 0) = false by rfl] at BD3
  rw [hc3] at FB
  clear hc3
  have g3 : ¬ (l.length : Int) < 3 := by omega
  have g4 : (3 : Int) ≤ l.length := by omega
  have t1 : (l.take 3 = [73, 68, 51]) = True := eq_true hid
  have t2 : (l.take 3 == [73, 68, 51]) = true := by simpa using hid
  clear hid
  try unfold TSkip at *
  try unfold TFrames at *
  unfold TParse
  go_enter Try.func17, Try.ntmps17
  go_upto_region 3 with (fail)
  have X := Lib.hid (at_a1 w #[.int .i64 0, .int .u8 0, .int .u8 0, .slice none 0 0] 26 (.cells #[.int .i64 0, .int .i64 0] 31))
  have F := Lib.hid (at_a2 w #[.int .i64 0, .int .i64 0] 31 (.cells #[.int .i64 0, .int .u8 0, .int .u8 0, .slice none 0 0] 26))
  have K : Hid (Below w.heap.size w ((w.alloc (.cells #[.int .i64 0, .int .u8 0, .int .u8 0, .slice none 0 0] 26)).alloc (.cells #[.int .i64 0, .int .i64 0] 31))) := Lib.hid (((Below.refl _ _).alloc (Nat.le_refl _) _).alloc (by simp) _)
  have hw0 : w.heap.size + 1 < ((w.alloc (.cells #[.int .i64 0, .int .u8 0, .int .u8 0, .slice none 0 0] 26)).alloc (.cells #[.int .i64 0, .int .i64 0] 31)).heap.size := by simp
  generalize (w.alloc (.cells #[.int .i64 0, .int .u8 0, .int .u8 0, .slice none 0 0] 26)).alloc (.cells #[.int .i64 0, .int .i64 0] 31) = w0 at *
  go_upto_region 24 with (first | (go_at_call 16; have _chk := H17; (with_reducible refine (BD3.out _).mono ?_); rintro e w18 ⟨rfl, hb18⟩; replace X := Lib.hid (block_below X.out (below_a1 hb18)); replace F := Lib.hid (block_below F.out (below_a1 hb18)); replace Y := Lib.hid (block_below Y.out (below_a1 hb18)); replace R := Lib.hid (R.out.below (below_a1 hb18)); replace V := Lib.hid (V.out.below (below_a1 hb18)); replace K := Lib.hid (nextB K.out (below_a1 hb18)); clear hb18; obtain ⟨y0, y1, y2⟩ := cells3 (Y.out); obtain ⟨yf0, yf1, yf2⟩ := frees3 (Y.out)) | (go_at_call 16; have _chk := V; (with_reducible refine (BD2.out _).mono ?_); rintro e w13 ⟨rfl, hb13⟩; replace X := Lib.hid (block_below X.out (below_a1 hb13)); replace F := Lib.hid (block_below F.out (below_a1 hb13)); replace Y := Lib.hid (block_below Y.out (below_a1 hb13)); replace R := Lib.hid (R.out.below (below_a1 hb13)); replace V := Lib.hid (V.out.below (below_a1 hb13)); replace K := Lib.hid (nextB K.out (below_a1 hb13)); clear hb13; obtain ⟨y0, y1, y2⟩ := cells3 (Y.out)) | (go_at_call 56; have _chk := V; (with_reducible refine (FB.out _ _ R.out).mono ?_); rintro e w17 ⟨rfl, hb17⟩; have H17 := True.intro; replace X := Lib.hid (block_below X.out (hb17)); replace F := Lib.hid (block_below F.out (hb17)); replace Y := Lib.hid (block_below Y.out (hb17)); replace R := Lib.hid (R.out.below (hb17)); replace V := Lib.hid (V.out.below (hb17)); replace K := Lib.hid (nextB K.out (hb17)); clear hb17; have hy17 := (Array.getElem?_eq_some_iff.1 Y.out).1) | (go_at_call 52; (with_reducible refine (RD.out _).mono ?_); rintro e w1 ⟨rfl, hr1, hb1⟩; have R := Lib.hid hr1; replace X := Lib.hid (block_below X.out (hb1)); replace F := Lib.hid (block_below F.out (hb1)); replace K := Lib.hid (nextB K.out (hb1)); clear hb1; clear hr1) | (go_at_call 53; (with_reducible refine (HD.out _ _ R.out).mono ?_); rintro e w2 ⟨rfl, r2, o2⟩; replace X := Lib.hid (block_only X.out o2 (by omega)); replace F := Lib.hid (block_only F.out o2 (by omega)); replace K := Lib.hid (onlyB K.out o2 (by omega)); clear o2; replace R := Lib.hid r2; have hr2 := R.out.lt; clear r2) | (go_at_call 55; (with_reducible refine (SF.out _ _ (R.out.alloc _)).mono ?_); rintro e w3 ⟨rfl, r3, o3⟩; have Y := Lib.hid (at_a0 w2 #[.int .i64 v, .int .u8 rv.toNat, .int .u8 fl.toNat] 23); replace X := Lib.hid (block_below X.out ((Below.refl w2.heap.size w2).alloc (Nat.le_refl _) (.cells #[.int .i64 v, .int .u8 rv.toNat, .int .u8 fl.toNat] 23))); replace F := Lib.hid (block_below F.out ((Below.refl w2.heap.size w2).alloc (Nat.le_refl _) (.cells #[.int .i64 v, .int .u8 rv.toNat, .int .u8 fl.toNat] 23))); replace K := Lib.hid (nextB K.out ((Below.refl w2.heap.size w2).alloc (Nat.le_refl _) (.cells #[.int .i64 v, .int .u8 rv.toNat, .int .u8 fl.toNat] 23))); replace X := Lib.hid (block_only X.out o3 (by omega)); replace F := Lib.hid (block_only F.out o3 (by omega)); replace Y := Lib.hid (block_only Y.out o3 (by omega)); replace K := Lib.hid (onlyB K.out o3 (by omega)); clear o3; replace R := Lib.hid r3; clear r3) | (go_at_call 54; (with_reducible refine (TK.out _ _ R.out).mono ?_); rintro e w4 ⟨rfl, r4, o4⟩; replace X := Lib.hid (block_only X.out o4 (by omega)); replace F := Lib.hid (block_only F.out o4 (by omega)); replace Y := Lib.hid (block_only Y.out o4 (by omega)); replace K := Lib.hid (onlyB K.out o4 (by omega)); clear o4; replace R := Lib.hid r4; clear r4) | (go_at_call 56; (with_reducible refine (FA.out _ _ R.out).mono ?_); rintro e w5 ⟨rfl, hb5⟩; have F1 := hb5; clear F1; replace X := Lib.hid (block_below X.out (hb5)); replace F := Lib.hid (block_below F.out (hb5)); replace Y := Lib.hid (block_below Y.out (hb5)); replace R := Lib.hid (R.out.below (hb5)); replace K := Lib.hid (nextB K.out (hb5)); clear hb5; have hy5 := (Array.getElem?_eq_some_iff.1 Y.out).1) | (go_at_call 16; (with_reducible refine (BD1.out _).mono ?_); rintro e w6 ⟨rfl, hb6⟩; replace X := Lib.hid (block_below X.out (below_a1 hb6)); replace F := Lib.hid (block_below F.out (below_a1 hb6)); replace Y := Lib.hid (block_below Y.out (below_a1 hb6)); replace R := Lib.hid (R.out.below (below_a1 hb6)); replace K := Lib.hid (nextB K.out (below_a1 hb6)); clear hb6; obtain ⟨y0, y1, y2⟩ := cells3 (Y.out); have hy6 := (Array.getElem?_eq_some_iff.1 Y.out).1; have hr6 := R.out.lt) | (go_at_call 57; (with_reducible refine (WH.out _).mono ?_); rintro e w7 ⟨rfl, hb7⟩; replace X := Lib.hid (block_below X.out (hb7)); replace F := Lib.hid (block_below F.out (hb7)); replace Y := Lib.hid (block_below Y.out (hb7)); replace R := Lib.hid (R.out.below (hb7)); replace K := Lib.hid (nextB K.out (hb7)); clear hb7; have hy7 := (Array.getElem?_eq_some_iff.1 Y.out).1; have hr7 := R.out.lt) | (go_at_call 58; (with_reducible refine (IN.out _).mono ?_); rintro e w9 ⟨rfl, hr9, hb9⟩; have RI := Lib.hid hr9; replace X := Lib.hid (block_below X.out (hb9)); replace F := Lib.hid (block_below F.out (hb9)); replace Y := Lib.hid (block_below Y.out (hb9)); replace R := Lib.hid (R.out.below (hb9)); replace K := Lib.hid (nextB K.out (hb9)); clear hb9; clear hr9; obtain ⟨y0, y1, y2⟩ := cells3 (Y.out)) | (go_at_call 59; (with_reducible refine (SK.out _ _ RI.out).mono ?_); rintro e w10 ⟨rfl, r10, o10⟩; replace X := Lib.hid (block_only X.out o10 (by omega)); replace F := Lib.hid (block_only F.out o10 (by omega)); replace Y := Lib.hid (block_only Y.out o10 (by omega)); replace R := Lib.hid (R.out.only o10 (by omega)); replace K := Lib.hid (onlyB K.out o10 (by omega)); clear o10; replace RI := Lib.hid r10; clear r10; obtain ⟨y0, y1, y2⟩ := cells3 (Y.out); have hr10 := R.out.lt; have hy10 := (Array.getElem?_eq_some_iff.1 Y.out).1; have hk10 := K.out.size) | (go_at_call 60; (with_reducible refine (FR.out _ _ RI.out).mono ?_); rintro e w11 ⟨u, rfl, hv, r11, o11⟩; obtain ⟨a1, cp1, hv1, _, _⟩ := hv.at; rw [List.length_map] at hv1; subst hv1; have V := Lib.hid hv; replace X := Lib.hid (block_only X.out o11 (by omega)); replace F := Lib.hid (block_only F.out o11 (by omega)); replace Y := Lib.hid (block_only Y.out o11 (by omega)); replace R := Lib.hid (R.out.only o11 (by omega)); replace K := Lib.hid (onlyB K.out o11 (by omega)); clear o11; replace RI := Lib.hid r11; clear r11 hv) | (go_at_call 56; (with_reducible refine (FI.out _ _ RI.out).mono ?_); rintro e w12 ⟨rfl, hb12⟩; replace X := Lib.hid (block_below X.out (hb12)); replace F := Lib.hid (block_below F.out (hb12)); replace Y := Lib.hid (block_below Y.out (hb12)); replace R := Lib.hid (R.out.below (hb12)); replace V := Lib.hid (V.out.below (hb12)); replace K := Lib.hid (nextB K.out (hb12)); clear hb12; have hy12 := (Array.getElem?_eq_some_iff.1 Y.out).1) | (go_at_call 22; (with_reducible refine (FT.out _).mono ?_); rintro e w14 ⟨rfl, hb14⟩; replace X := Lib.hid (block_below X.out (hb14)); replace F := Lib.hid (block_below F.out (hb14)); replace Y := Lib.hid (block_below Y.out (hb14)); replace R := Lib.hid (R.out.below (hb14)); replace V := Lib.hid (V.out.below (hb14)); replace K := Lib.hid (nextB K.out (hb14)); clear hb14) | (go_at_call 61; (with_reducible refine (W1.out _ _ R.out).mono ?_); rintro e w15 ⟨rfl, r15, o15⟩; replace X := Lib.hid (block_only X.out o15 (by omega)); replace F := Lib.hid (block_only F.out o15 (by omega)); replace Y := Lib.hid (block_only Y.out o15 (by omega)); replace V := Lib.hid (V.out.onlyT o15 (by omega)); replace K := Lib.hid (onlyB K.out o15 (by omega)); clear o15; replace R := Lib.hid r15; clear r15) | (go_at_call 61; (with_reducible refine (W2.out _ _ R.out).mono ?_); rintro e w16 ⟨rfl, r16, o16⟩; replace X := Lib.hid (block_only X.out o16 (by omega)); replace F := Lib.hid (block_only F.out o16 (by omega)); replace Y := Lib.hid (block_only Y.out o16 (by omega)); replace V := Lib.hid (V.out.onlyT o16 (by omega)); replace K := Lib.hid (onlyB K.out o16 (by omega)); clear o16; replace R := Lib.hid r16; clear r16))
  obtain ⟨x0, x1, x2, x3⟩ := cells4 (X.out); obtain ⟨xf0, xf1, xf2, xf3⟩ := frees4 (X.out)
  obtain ⟨f0, f1⟩ := cells2 (F.out); obtain ⟨ff0, ff1⟩ := frees2 (F.out)
  clear y0 y1 y2 yf0 yf1 yf2
  replace Y : Hid ((w18.setCell ⟨w2.heap.size, 2, none⟩ (.int .u8 f2.toNat)).heap[w2.heap.size]? = some (.cells #[.int .i64 v, .int .u8 rv.toNat, .int .u8 f2.toNat] 23 (0, 0))) := Lib.hid (setCell_at (j := 2) (v := .int .u8 f2.toNat) Y.out)
  replace X := Lib.hid ((heap_set_other (b := w.heap.size) (c := w2.heap.size) (j := 2) (.int .u8 f2.toNat) (by omega)).trans X.out)
  replace F := Lib.hid ((heap_set_other (b := w.heap.size + 1) (c := w2.heap.size) (j := 2) (.int .u8 f2.toNat) (by omega)).trans F.out)
  replace R := Lib.hid (R.out.only (Only.set (b := w2.heap.size) (j := 2) (.int .u8 f2.toNat)) (by omega))
  replace V := Lib.hid (V.out.onlyT (Only.set (b := w2.heap.size) (j := 2) (.int .u8 f2.toNat)) (by omega))
  replace K := Lib.hid (Below.setCell (p := ⟨w2.heap.size, 2, none⟩) K.out (by show w.heap.size ≤ w2.heap.size; omega) (.int .u8 f2.toNat))
  generalize w18.setCell ⟨w2.heap.size, 2, none⟩ (.int .u8 f2.toNat) = v0 at *
  clear x0 x1 x2 x3 xf0 xf1 xf2 xf3 f0 f1 ff0 ff1 e64
  have cc : v0.cell? ⟨w2.heap.size, 0, none⟩ = some (.int .i64 v) ∧ v0.cell? ⟨w2.heap.size, 1, none⟩ = some (.int .u8 rv.toNat) ∧ v0.cell? ⟨w2.heap.size, 2, none⟩ = some (.int .u8 f2.toNat) := ⟨cell_at (j := 0) (Y.out), cell_at (j := 1) (Y.out), cell_at (j := 2) (Y.out)⟩
  have n1 : w.heap.size ≠ w.heap.size + 1 := by omega
  have n2 : w2.heap.size ≠ w.heap.size := by omega
  have n3 : w2.heap.size ≠ w.heap.size + 1 := by omega
  clear g3 g4 t1 t2
  have ccd : (World.drew v0).cell? ⟨w2.heap.size, 0, none⟩ = some (.int .i64 v) ∧ (World.drew v0).cell? ⟨w2.heap.size, 1, none⟩ = some (.int .u8 rv.toNat) ∧ (World.drew v0).cell? ⟨w2.heap.size, 2, none⟩ = some (.int .u8 f2.toNat) := cc
  go_region_held3 (fun w' => w'.cell? ⟨w2.heap.size, 0, none⟩ = some (.int .i64 v) ∧ w'.cell? ⟨w2.heap.size, 1, none⟩ = some (.int .u8 rv.toNat) ∧ w'.cell? ⟨w2.heap.size, 2, none⟩ = some (.int .u8 f2.toNat)) (first | with_reducible exact ccd | with_reducible exact x19 | with_reducible exact keepS n2 (keepS n2 (keepS n2 (keepS n2 x19))) | with_reducible exact keepS n3 (keepS n3 (keepS n2 (keepS n2 (keepS n2 (keepS n2 x19))))) | fail)
    (first | (go_at_call 62; (with_reducible refine (RS.out _ (World.drew v0) R.out.drew).mono ?_); rintro e w19 ⟨rfl, r19, o19⟩; have o20 := fr_drewO o19; have x19 : w19.cell? ⟨w2.heap.size, 0, none⟩ = some (.int .i64 v) ∧ w19.cell? ⟨w2.heap.size, 1, none⟩ = some (.int .u8 rv.toNat) ∧ w19.cell? ⟨w2.heap.size, 2, none⟩ = some (.int .u8 f2.toNat) := ⟨cell_at (j := 0) (block_only Y.out o20 (by omega)), cell_at (j := 1) (block_only Y.out o20 (by omega)), cell_at (j := 2) (block_only Y.out o20 (by omega))⟩; replace X := Lib.hid (block_only X.out o20 (by omega)); replace F := Lib.hid (block_only F.out o20 (by omega)); replace V := Lib.hid (V.out.onlyT o20 (by omega)); replace K := Lib.hid (onlyB K.out o20 (by omega)); obtain ⟨x0, x1, x2, x3⟩ := cells4 (X.out); obtain ⟨xf0, xf1, xf2, xf3⟩ := frees4 (X.out); obtain ⟨f0, f1⟩ := cells2 (F.out); obtain ⟨ff0, ff1⟩ := frees2 (F.out); clear r19 o19 o20))
  go_wp2
  have hc := two_cells (a0 := .int .i64 v) (a1 := .int .u8 rv.toNat) (a2 := .int .u8 f2.toNat) (a3 := .slice a1 fs.length cp1) (d0 := .int .i64 0) (d1 := .int .i64 0) X.out F.out rfl rfl n1
  refine end_ctc rfl rfl rfl hc.1 Try.underlying26 rfl (by kernel_rfl) rfl hc.2 Try.underlying31 rfl (by kernel_rfl) ⟨_, rfl, ?_, two_below K.out (Nat.le_refl _) (by omega) _ _ _ _ _ _⟩
  exact ((((((V.out.onlyT (Only.set _) (by omega)).onlyT (Only.set _) (by omega)).onlyT (Only.set _) (by omega)).onlyT (Only.set _) (by omega)).onlyT (Only.set _) (by omega)).onlyT (Only.set _) (by omega)).base (by omega)
set_option maxHeartbeats 8000000 in
set_option maxRecDepth 100000 in
theorem tparse_bad2_1 (l : List UInt8) (v : Int) (rv fl : UInt8) (n c1 q1 c2 q2 c3 q3 : Int) (m0 m1 m2 m3 m4 m5 m6 i0 i1 i2 : Rd) (body0 body rest : List UInt8) (ok1 ok2 : Bool) (fs : List Fr) (w : World) (h3 : 3 ≤ l.length) (hid : l.take 3 = [73, 68, 51])
    (RD : Hid (∀ w, Calls Try.prog 52 #[.string ⟨l.toArray⟩] w fun e w' => e = .returned (.pointer (some ⟨w.heap.size, 0, none⟩)) ∧ RdAt w' w.heap.size m0 ∧ Below w.heap.size w w'))
    (HD : Hid (∀ b w, RdAt w b m0 → Calls Try.prog 53 #[.pointer (some ⟨b, 0, none⟩)] w fun e w' => e = .returned (.agg #[.int .i64 v, .int .u8 rv.toNat, .int .u8 fl.toNat]) ∧ RdAt w' b m1 ∧ Only b w w'))
    (SF : Hid (∀ b w, RdAt w b m1 → Calls Try.prog 55 #[.pointer (some ⟨b, 0, none⟩)] w fun e w' => e = .returned (.int .i64 n) ∧ RdAt w' b m2 ∧ Only b w w'))
    (TK : Hid (∀ b w, RdAt w b m2 → Calls Try.prog 54 #[.pointer (some ⟨b, 0, none⟩), .int .i64 n] w fun e w' => e = .returned (.string ⟨body0.toArray⟩) ∧ RdAt w' b m3 ∧ Only b w w'))
    (FA : Hid (∀ b w, RdAt w b m3 → Calls Try.prog 56 #[.pointer (some ⟨b, 0, none⟩)] w fun e w' => e = .returned (.agg #[.int .i64 c1, .int .i64 q1]) ∧ Below w.heap.size w w'))
    (WH : Hid (∀ w, Calls Try.prog 57 #[.agg #[.int .i64 v, .int .u8 rv.toNat, .int .u8 fl.toNat]] w fun e w' => e = .returned (.bool true) ∧ Below w.heap.size w w'))
    (DR : Hid (∀ w, Calls Try.prog 45 #[.string ⟨body0.toArray⟩] w fun e w' => e = .returned (.string ⟨body.toArray⟩) ∧ Below w.heap.size w w'))
    (IN : Hid (∀ w, Calls Try.prog 58 #[.string ⟨body.toArray⟩, .int .i64 10] w fun e w' => e = .returned (.pointer (some ⟨w.heap.size, 0, none⟩)) ∧ RdAt w' w.heap.size i0 ∧ Below w.heap.size w w'))
    (SK : Hid (∀ b w, RdAt w b i0 → Calls Try.prog 59 #[.agg #[.int .i64 v, .int .u8 rv.toNat, .int .u8 fl.toNat], .pointer (some ⟨b, 0, none⟩)] w (TSkip b i1 w)))
    (FR : Hid (∀ b w, RdAt w b i1 → Calls Try.prog 60 #[.agg #[.int .i64 v, .int .u8 rv.toNat, .int .u8 fl.toNat], .pointer (some ⟨b, 0, none⟩)] w (TFrames b i2 fs w)))
    (FI : Hid (∀ b w, RdAt w b i2 → Calls Try.prog 56 #[.pointer (some ⟨b, 0, none⟩)] w fun e w' => e = .returned (.agg #[.int .i64 c2, .int .i64 q2]) ∧ Below w.heap.size w w'))
    (hc1 : c1 = 0) (hc2 : c2 ≠ 0)
    : Calls Try.prog 17 #[.string ⟨l.toArray⟩] w (TParse zeroT [] c2 q2 w) := by
  have BD1 := Lib.hid (fun w => bad_any c1 q1 w)
  rw [hc1] at BD1
  rw [show ((0 : Int) != 0) = false by rfl] at BD1
  rw [hc1] at FA
  clear hc1
  have BD2 := Lib.hid (fun w => bad_any c2 q2 w)
  rw [show (c2 != 0) = true by simpa using hc2] at BD2
  clear hc2
  have g3 : ¬ (l.length : Int) < 3 := by omega
  have g4 : (3 : Int) ≤ l.length := by omega
  have t1 : (l.take 3 = [73, 68, 51]) = True := eq_true hid
  have t2 : (l.take 3 == [73, 68, 51]) = true := by simpa using hid
  clear hid
  try unfold TSkip at *
  try unfold TFrames at *
  unfold TParse
  go_enter Try.func17, Try.ntmps17
  go_upto_region 3 with (fail)
  have X := Lib.hid (at_a1 w #[.int .i64 0, .int .u8 0, .int .u8 0, .slice none 0 0] 26 (.cells #[.int .i64 0, .int .i64 0] 31))
  have F := Lib.hid (at_a2 w #[.int .i64 0, .int .i64 0] 31 (.cells #[.int .i64 0, .int .u8 0, .int .u8 0, .slice none 0 0] 26))
  have K : Hid (Below w.heap.size w ((w.alloc (.cells #[.int .i64 0, .int .u8 0, .int .u8 0, .slice none 0 0] 26)).alloc (.cells #[.int .i64 0, .int .i64 0] 31))) := Lib.hid (((Below.refl _ _).alloc (Nat.le_refl _) _).alloc (by simp) _)
  have hw0 : w.heap.size + 1 < ((w.alloc (.cells #[.int .i64 0, .int .u8 0, .int .u8 0, .slice none 0 0] 26)).alloc (.cells #[.int .i64 0, .int .i64 0] 31)).heap.size := by simp
  generalize (w.alloc (.cells #[.int .i64 0, .int .u8 0, .int .u8 0, .slice none 0 0] 26)).alloc (.cells #[.int .i64 0, .int .i64 0] 31) = w0 at *
  go_upto_region 16 with (first | (go_at_call 16; have _chk := V; (with_reducible refine (BD2.out _).mono ?_); rintro e w13 ⟨rfl, hb13⟩; have G := Lib.hid (block_below (at_a0 w12 #[.int .i64 c2, .int .i64 q2] 31) hb13); replace X := Lib.hid (block_below X.out (below_a1 hb13)); replace F := Lib.hid (block_below F.out (below_a1 hb13)); replace Y := Lib.hid (block_below Y.out (below_a1 hb13)); replace R := Lib.hid (R.out.below (below_a1 hb13)); replace V := Lib.hid (V.out.below (below_a1 hb13)); replace K := Lib.hid (nextB K.out (below_a1 hb13)); clear hb13; obtain ⟨y0, y1, y2⟩ := cells3 (Y.out)) | (go_at_call 52; (with_reducible refine (RD.out _).mono ?_); rintro e w1 ⟨rfl, hr1, hb1⟩; have R := Lib.hid hr1; replace X := Lib.hid (block_below X.out (hb1)); replace F := Lib.hid (block_below F.out (hb1)); replace K := Lib.hid (nextB K.out (hb1)); clear hb1; clear hr1) | (go_at_call 53; (with_reducible refine (HD.out _ _ R.out).mono ?_); rintro e w2 ⟨rfl, r2, o2⟩; replace X := Lib.hid (block_only X.out o2 (by omega)); replace F := Lib.hid (block_only F.out o2 (by omega)); replace K := Lib.hid (onlyB K.out o2 (by omega)); clear o2; replace R := Lib.hid r2; have hr2 := R.out.lt; clear r2) | (go_at_call 55; (with_reducible refine (SF.out _ _ (R.out.alloc _)).mono ?_); rintro e w3 ⟨rfl, r3, o3⟩; have Y := Lib.hid (at_a0 w2 #[.int .i64 v, .int .u8 rv.toNat, .int .u8 fl.toNat] 23); replace X := Lib.hid (block_below X.out ((Below.refl w2.heap.size w2).alloc (Nat.le_refl _) (.cells #[.int .i64 v, .int .u8 rv.toNat, .int .u8 fl.toNat] 23))); replace F := Lib.hid (block_below F.out ((Below.refl w2.heap.size w2).alloc (Nat.le_refl _) (.cells #[.int .i64 v, .int .u8 rv.toNat, .int .u8 fl.toNat] 23))); replace K := Lib.hid (nextB K.out ((Below.refl w2.heap.size w2).alloc (Nat.le_refl _) (.cells #[.int .i64 v, .int .u8 rv.toNat, .int .u8 fl.toNat] 23))); replace X := Lib.hid (block_only X.out o3 (by omega)); replace F := Lib.hid (block_only F.out o3 (by omega)); replace Y := Lib.hid (block_only Y.out o3 (by omega)); replace K := Lib.hid (onlyB K.out o3 (by omega)); clear o3; replace R := Lib.hid r3; clear r3) | (go_at_call 54; (with_reducible refine (TK.out _ _ R.out).mono ?_); rintro e w4 ⟨rfl, r4, o4⟩; replace X := Lib.hid (block_only X.out o4 (by omega)); replace F := Lib.hid (block_only F.out o4 (by omega)); replace Y := Lib.hid (block_only Y.out o4 (by omega)); replace K := Lib.hid (onlyB K.out o4 (by omega)); clear o4; replace R := Lib.hid r4; clear r4) | (go_at_call 56; (with_reducible refine (FA.out _ _ R.out).mono ?_); rintro e w5 ⟨rfl, hb5⟩; have F1 := hb5; clear F1; replace X := Lib.hid (block_below X.out (hb5)); replace F := Lib.hid (block_below F.out (hb5)); replace Y := Lib.hid (block_below Y.out (hb5)); replace R := Lib.hid (R.out.below (hb5)); replace K := Lib.hid (nextB K.out (hb5)); clear hb5; have hy5 := (Array.getElem?_eq_some_iff.1 Y.out).1) | (go_at_call 16; (with_reducible refine (BD1.out _).mono ?_); rintro e w6 ⟨rfl, hb6⟩; replace X := Lib.hid (block_below X.out (below_a1 hb6)); replace F := Lib.hid (block_below F.out (below_a1 hb6)); replace Y := Lib.hid (block_below Y.out (below_a1 hb6)); replace R := Lib.hid (R.out.below (below_a1 hb6)); replace K := Lib.hid (nextB K.out (below_a1 hb6)); clear hb6; obtain ⟨y0, y1, y2⟩ := cells3 (Y.out); have hy6 := (Array.getElem?_eq_some_iff.1 Y.out).1; have hr6 := R.out.lt) | (go_at_call 57; (with_reducible refine (WH.out _).mono ?_); rintro e w7 ⟨rfl, hb7⟩; replace X := Lib.hid (block_below X.out (hb7)); replace F := Lib.hid (block_below F.out (hb7)); replace Y := Lib.hid (block_below Y.out (hb7)); replace R := Lib.hid (R.out.below (hb7)); replace K := Lib.hid (nextB K.out (hb7)); clear hb7; have hy7 := (Array.getElem?_eq_some_iff.1 Y.out).1; have hr7 := R.out.lt) | (go_at_call 45; (with_reducible refine (DR.out _).mono ?_); rintro e w8 ⟨rfl, hb8⟩; replace X := Lib.hid (block_below X.out (hb8)); replace F := Lib.hid (block_below F.out (hb8)); replace Y := Lib.hid (block_below Y.out (hb8)); replace R := Lib.hid (R.out.below (hb8)); replace K := Lib.hid (nextB K.out (hb8)); clear hb8; have hy8 := (Array.getElem?_eq_some_iff.1 Y.out).1; have hr8 := R.out.lt) | (go_at_call 58; (with_reducible refine (IN.out _).mono ?_); rintro e w9 ⟨rfl, hr9, hb9⟩; have RI := Lib.hid hr9; replace X := Lib.hid (block_below X.out (hb9)); replace F := Lib.hid (block_below F.out (hb9)); replace Y := Lib.hid (block_below Y.out (hb9)); replace R := Lib.hid (R.out.below (hb9)); replace K := Lib.hid (nextB K.out (hb9)); clear hb9; clear hr9; obtain ⟨y0, y1, y2⟩ := cells3 (Y.out)) | (go_at_call 59; (with_reducible refine (SK.out _ _ RI.out).mono ?_); rintro e w10 ⟨rfl, r10, o10⟩; replace X := Lib.hid (block_only X.out o10 (by omega)); replace F := Lib.hid (block_only F.out o10 (by omega)); replace Y := Lib.hid (block_only Y.out o10 (by omega)); replace R := Lib.hid (R.out.only o10 (by omega)); replace K := Lib.hid (onlyB K.out o10 (by omega)); clear o10; replace RI := Lib.hid r10; clear r10; obtain ⟨y0, y1, y2⟩ := cells3 (Y.out); have hr10 := R.out.lt; have hy10 := (Array.getElem?_eq_some_iff.1 Y.out).1; have hk10 := K.out.size) | (go_at_call 60; (with_reducible refine (FR.out _ _ RI.out).mono ?_); rintro e w11 ⟨u, rfl, hv, r11, o11⟩; obtain ⟨a1, cp1, hv1, _, _⟩ := hv.at; rw [List.length_map] at hv1; subst hv1; have V := Lib.hid hv; replace X := Lib.hid (block_only X.out o11 (by omega)); replace F := Lib.hid (block_only F.out o11 (by omega)); replace Y := Lib.hid (block_only Y.out o11 (by omega)); replace R := Lib.hid (R.out.only o11 (by omega)); replace K := Lib.hid (onlyB K.out o11 (by omega)); clear o11; replace RI := Lib.hid r11; clear r11 hv) | (go_at_call 56; (with_reducible refine (FI.out _ _ RI.out).mono ?_); rintro e w12 ⟨rfl, hb12⟩; replace X := Lib.hid (block_below X.out (hb12)); replace F := Lib.hid (block_below F.out (hb12)); replace Y := Lib.hid (block_below Y.out (hb12)); replace R := Lib.hid (R.out.below (hb12)); replace V := Lib.hid (V.out.below (hb12)); replace K := Lib.hid (nextB K.out (hb12)); clear hb12; have hy12 := (Array.getElem?_eq_some_iff.1 Y.out).1))
  obtain ⟨x0, x1, x2, x3⟩ := cells4 (X.out); obtain ⟨xf0, xf1, xf2, xf3⟩ := frees4 (X.out)
  obtain ⟨f0, f1⟩ := cells2 (F.out); obtain ⟨ff0, ff1⟩ := frees2 (F.out)
  obtain ⟨g0, g1⟩ := cells2 (G.out)
  have hg := (Array.getElem?_eq_some_iff.1 G.out).1
  have n1 : w.heap.size ≠ w.heap.size + 1 := by omega
  have n2 : w.heap.size ≠ w12.heap.size := by omega
  have n3 : w.heap.size + 1 ≠ w12.heap.size := by omega
  have XD := Lib.hid X.out
  have FD := Lib.hid F.out
  have KD := Lib.hid K.out
  clear R Y K X F G V RI RD HD SF TK FA BD1 WH IN SK FR FI BD2 DR
  go_region
  go_wp2
  have hc := two_cells (a0 := .int .i64 0) (a1 := .int .u8 0) (a2 := .int .u8 0) (a3 := .slice none 0 0) (d0 := .int .i64 c2) (d1 := .int .i64 q2) XD.out FD.out rfl rfl n1
  exact end_ctc rfl rfl rfl (block_drew hc.1) Try.underlying26 rfl (by kernel_rfl) rfl (block_drew hc.2) Try.underlying31 rfl (by kernel_rfl) ⟨_, rfl, Recs.nil _ _ _ _, (two_below KD.out (Nat.le_refl _) (by omega) _ _ _ _ _ _).drew⟩
set_option maxHeartbeats 8000000 in
set_option maxRecDepth 100000 in
theorem tparse_good_10 (l : List UInt8) (v : Int) (rv fl : UInt8) (n c1 q1 c2 q2 c3 q3 : Int) (m0 m1 m2 m3 m4 m5 m6 i0 i1 i2 : Rd) (body0 body rest : List UInt8) (ok1 ok2 : Bool) (fs : List Fr) (w : World) (h3 : 3 ≤ l.length) (hid : l.take 3 = [73, 68, 51])
    (RD : Hid (∀ w, Calls Try.prog 52 #[.string ⟨l.toArray⟩] w fun e w' => e = .returned (.pointer (some ⟨w.heap.size, 0, none⟩)) ∧ RdAt w' w.heap.size m0 ∧ Below w.heap.size w w'))
    (HD : Hid (∀ b w, RdAt w b m0 → Calls Try.prog 53 #[.pointer (some ⟨b, 0, none⟩)] w fun e w' => e = .returned (.agg #[.int .i64 v, .int .u8 rv.toNat, .int .u8 fl.toNat]) ∧ RdAt w' b m1 ∧ Only b w w'))
    (SF : Hid (∀ b w, RdAt w b m1 → Calls Try.prog 55 #[.pointer (some ⟨b, 0, none⟩)] w fun e w' => e = .returned (.int .i64 n) ∧ RdAt w' b m2 ∧ Only b w w'))
    (TK : Hid (∀ b w, RdAt w b m2 → Calls Try.prog 54 #[.pointer (some ⟨b, 0, none⟩), .int .i64 n] w fun e w' => e = .returned (.string ⟨body0.toArray⟩) ∧ RdAt w' b m3 ∧ Only b w w'))
    (FA : Hid (∀ b w, RdAt w b m3 → Calls Try.prog 56 #[.pointer (some ⟨b, 0, none⟩)] w fun e w' => e = .returned (.agg #[.int .i64 c1, .int .i64 q1]) ∧ Below w.heap.size w w'))
    (WH : Hid (∀ w, Calls Try.prog 57 #[.agg #[.int .i64 v, .int .u8 rv.toNat, .int .u8 fl.toNat]] w fun e w' => e = .returned (.bool true) ∧ Below w.heap.size w w'))
    (DR : Hid (∀ w, Calls Try.prog 45 #[.string ⟨body0.toArray⟩] w fun e w' => e = .returned (.string ⟨body.toArray⟩) ∧ Below w.heap.size w w'))
    (IN : Hid (∀ w, Calls Try.prog 58 #[.string ⟨body.toArray⟩, .int .i64 10] w fun e w' => e = .returned (.pointer (some ⟨w.heap.size, 0, none⟩)) ∧ RdAt w' w.heap.size i0 ∧ Below w.heap.size w w'))
    (SK : Hid (∀ b w, RdAt w b i0 → Calls Try.prog 59 #[.agg #[.int .i64 v, .int .u8 rv.toNat, .int .u8 fl.toNat], .pointer (some ⟨b, 0, none⟩)] w (TSkip b i1 w)))
    (FR : Hid (∀ b w, RdAt w b i1 → Calls Try.prog 60 #[.agg #[.int .i64 v, .int .u8 rv.toNat, .int .u8 fl.toNat], .pointer (some ⟨b, 0, none⟩)] w (TFrames b i2 fs w)))
    (FI : Hid (∀ b w, RdAt w b i2 → Calls Try.prog 56 #[.pointer (some ⟨b, 0, none⟩)] w fun e w' => e = .returned (.agg #[.int .i64 c2, .int .i64 q2]) ∧ Below w.heap.size w w'))
    (FT : Hid (∀ w, Calls Try.prog 22 #[.agg #[.int .i64 v, .int .u8 rv.toNat, .int .u8 fl.toNat]] w fun e w' => e = .returned (.bool false) ∧ Below w.heap.size w w'))
    (EM : m3 = m5)
    (FB : Hid (∀ b w, RdAt w b m5 → Calls Try.prog 56 #[.pointer (some ⟨b, 0, none⟩)] w fun e w' => e = .returned (.agg #[.int .i64 c3, .int .i64 q3]) ∧ Below w.heap.size w w'))
    (RS : Hid (∀ b w, RdAt w b m5 → Calls Try.prog 62 #[.pointer (some ⟨b, 0, none⟩)] w fun e w' => e = .returned (.string ⟨rest.toArray⟩) ∧ RdAt w' b m6 ∧ Only b w w'))
    (hc1 : c1 = 0) (hc2 : c2 = 0) (hc3 : c3 = 0) (f2 : UInt8) (e64 : bits .andNot .u8 (fl.toNat : Int) 64 = (f2.toNat : Int)) 
    : Calls Try.prog 17 #[.string ⟨l.toArray⟩] w (TParse ⟨v, rv, f2, fs⟩ rest 0 0 w) := by
  subst EM
  have BD1 := Lib.hid (fun w => bad_any c1 q1 w)
  rw [hc1] at BD1
  rw [show ((0 : Int) != 0) = false by rfl] at BD1
  rw [hc1] at FA
  clear hc1
  have BD2 := Lib.hid (fun w => bad_any c2 q2 w)
  rw [hc2] at BD2
  rw [show ((0 : Int) != 0) = false by rfl] at BD2
  rw [hc2] at FI
  clear hc2
  have BD3 := Lib.hid (fun w => bad_any c3 q3 w)
  rw [hc3] at BD3
  rw [show ((0 : Int) != 0) = false by rfl] at BD3
  rw [hc3] at FB
  clear hc3
  have g3 : ¬ (l.length : Int) < 3 := by omega
  have g4 : (3 : Int) ≤ l.length := by omega
  have t1 : (l.take 3 = [73, 68, 51]) = True := eq_true hid
  have t2 : (l.take 3 == [73, 68, 51]) = true := by simpa using hid
  clear hid
  try unfold TSkip at *
  try unfold TFrames at *
  unfold TParse
  go_enter Try.func17, Try.ntmps17
  go_upto_region 3 with (fail)
  have X := Lib.hid (at_a1 w #[.int .i64 0, .int .u8 0, .int .u8 0, .slice none 0 0] 26 (.cells #[.int .i64 0, .int .i64 0] 31))
  have F := Lib.hid (at_a2 w #[.int .i64 0, .int .i64 0] 31 (.cells #[.int .i64 0, .int .u8 0, .int .u8 0, .slice none 0 0] 26))
  have K : Hid (Below w.heap.size w ((w.alloc (.cells #[.int .i64 0, .int .u8 0, .int .u8 0, .slice none 0 0] 26)).alloc (.cells #[.int .i64 0, .int .i64 0] 31))) := Lib.hid (((Below.refl _ _).alloc (Nat.le_refl _) _).alloc (by simp) _)
  have hw0 : w.heap.size + 1 < ((w.alloc (.cells #[.int .i64 0, .int .u8 0, .int .u8 0, .slice none 0 0] 26)).alloc (.cells #[.int .i64 0, .int .i64 0] 31)).heap.size := by simp
  generalize (w.alloc (.cells #[.int .i64 0, .int .u8 0, .int .u8 0, .slice none 0 0] 26)).alloc (.cells #[.int .i64 0, .int .i64 0] 31) = w0 at *
  go_upto_region 24 with (first | (go_at_call 16; have _chk := H17; (with_reducible refine (BD3.out _).mono ?_); rintro e w18 ⟨rfl, hb18⟩; replace X := Lib.hid (block_below X.out (below_a1 hb18)); replace F := Lib.hid (block_below F.out (below_a1 hb18)); replace Y := Lib.hid (block_below Y.out (below_a1 hb18)); replace R := Lib.hid (R.out.below (below_a1 hb18)); replace V := Lib.hid (V.out.below (below_a1 hb18)); replace K := Lib.hid (nextB K.out (below_a1 hb18)); clear hb18; obtain ⟨y0, y1, y2⟩ := cells3 (Y.out); obtain ⟨yf0, yf1, yf2⟩ := frees3 (Y.out)) | (go_at_call 16; have _chk := V; (with_reducible refine (BD2.out _).mono ?_); rintro e w13 ⟨rfl, hb13⟩; replace X := Lib.hid (block_below X.out (below_a1 hb13)); replace F := Lib.hid (block_below F.out (below_a1 hb13)); replace Y := Lib.hid (block_below Y.out (below_a1 hb13)); replace R := Lib.hid (R.out.below (below_a1 hb13)); replace V := Lib.hid (V.out.below (below_a1 hb13)); replace K := Lib.hid (nextB K.out (below_a1 hb13)); clear hb13; obtain ⟨y0, y1, y2⟩ := cells3 (Y.out)) | (go_at_call 56; have _chk := V; (with_reducible refine (FB.out _ _ R.out).mono ?_); rintro e w17 ⟨rfl, hb17⟩; have H17 := True.intro; replace X := Lib.hid (block_below X.out (hb17)); replace F := Lib.hid (block_below F.out (hb17)); replace Y := Lib.hid (block_below Y.out (hb17)); replace R := Lib.hid (R.out.below (hb17)); replace V := Lib.hid (V.out.below (hb17)); replace K := Lib.hid (nextB K.out (hb17)); clear hb17; have hy17 := (Array.getElem?_eq_some_iff.1 Y.out).1) | (go_at_call 52; (with_reducible refine (RD.out _).mono ?_); rintro e w1 ⟨rfl, hr1, hb1⟩; have R := Lib.hid hr1; replace X := Lib.hid (block_below X.out (hb1)); replace F := Lib.hid (block_below F.out (hb1)); replace K := Lib.hid (nextB K.out (hb1)); clear hb1; clear hr1) | (go_at_call 53; (with_reducible refine (HD.out _ _ R.out).mono ?_); rintro e w2 ⟨rfl, r2, o2⟩; replace X := Lib.hid (block_only X.out o2 (by omega)); replace F := Lib.hid (block_only F.out o2 (by omega)); replace K := Lib.hid (onlyB K.out o2 (by omega)); clear o2; replace R := Lib.hid r2; have hr2 := R.out.lt; clear r2) | (go_at_call 55; (with_reducible refine (SF.out _ _ (R.out.alloc _)).mono ?_); rintro e w3 ⟨rfl, r3, o3⟩; have Y := Lib.hid (at_a0 w2 #[.int .i64 v, .int .u8 rv.toNat, .int .u8 fl.toNat] 23); replace X := Lib.hid (block_below X.out ((Below.refl w2.heap.size w2).alloc (Nat.le_refl _) (.cells #[.int .i64 v, .int .u8 rv.toNat, .int .u8 fl.toNat] 23))); replace F := Lib.hid (block_below F.out ((Below.refl w2.heap.size w2).alloc (Nat.le_refl _) (.cells #[.int .i64 v, .int .u8 rv.toNat, .int .u8 fl.toNat] 23))); replace K := Lib.hid (nextB K.out ((Below.refl w2.heap.size w2).alloc (Nat.le_refl _) (.cells #[.int .i64 v, .int .u8 rv.toNat, .int .u8 fl.toNat] 23))); replace X := Lib.hid (block_only X.out o3 (by omega)); replace F := Lib.hid (block_only F.out o3 (by omega)); replace Y := Lib.hid (block_only Y.out o3 (by omega)); replace K := Lib.hid (onlyB K.out o3 (by omega)); clear o3; replace R := Lib.hid r3; clear r3) | (go_at_call 54; (with_reducible refine (TK.out _ _ R.out).mono ?_); rintro e w4 ⟨rfl, r4, o4⟩; replace X := Lib.hid (block_only X.out o4 (by omega)); replace F := Lib.hid (block_only F.out o4 (by omega)); replace Y := Lib.hid (block_only Y.out o4 (by omega)); replace K := Lib.hid (onlyB K.out o4 (by omega)); clear o4; replace R := Lib.hid r4; clear r4) | (go_at_call 56; (with_reducible refine (FA.out _ _ R.out).mono ?_); rintro e w5 ⟨rfl, hb5⟩; have F1 := hb5; clear F1; replace X := Lib.hid (block_below X.out (hb5)); replace F := Lib.hid (block_below F.out (hb5)); replace Y := Lib.hid (block_below Y.out (hb5)); replace R := Lib.hid (R.out.below (hb5)); replace K := Lib.hid (nextB K.out (hb5)); clear hb5; have hy5 := (Array.getElem?_eq_some_iff.1 Y.out).1) | (go_at_call 16; (with_reducible refine (BD1.out _).mono ?_); rintro e w6 ⟨rfl, hb6⟩; replace X := Lib.hid (block_below X.out (below_a1 hb6)); replace F := Lib.hid (block_below F.out (below_a1 hb6)); replace Y := Lib.hid (block_below Y.out (below_a1 hb6)); replace R := Lib.hid (R.out.below (below_a1 hb6)); replace K := Lib.hid (nextB K.out (below_a1 hb6)); clear hb6; obtain ⟨y0, y1, y2⟩ := cells3 (Y.out); have hy6 := (Array.getElem?_eq_some_iff.1 Y.out).1; have hr6 := R.out.lt) | (go_at_call 57; (with_reducible refine (WH.out _).mono ?_); rintro e w7 ⟨rfl, hb7⟩; replace X := Lib.hid (block_below X.out (hb7)); replace F := Lib.hid (block_below F.out (hb7)); replace Y := Lib.hid (block_below Y.out (hb7)); replace R := Lib.hid (R.out.below (hb7)); replace K := Lib.hid (nextB K.out (hb7)); clear hb7; have hy7 := (Array.getElem?_eq_some_iff.1 Y.out).1; have hr7 := R.out.lt) | (go_at_call 45; (with_reducible refine (DR.out _).mono ?_); rintro e w8 ⟨rfl, hb8⟩; replace X := Lib.hid (block_below X.out (hb8)); replace F := Lib.hid (block_below F.out (hb8)); replace Y := Lib.hid (block_below Y.out (hb8)); replace R := Lib.hid (R.out.below (hb8)); replace K := Lib.hid (nextB K.out (hb8)); clear hb8; have hy8 := (Array.getElem?_eq_some_iff.1 Y.out).1; have hr8 := R.out.lt) | (go_at_call 58; (with_reducible refine (IN.out _).mono ?_); rintro e w9 ⟨rfl, hr9, hb9⟩; have RI := Lib.hid hr9; replace X := Lib.hid (block_below X.out (hb9)); replace F := Lib.hid (block_below F.out (hb9)); replace Y := Lib.hid (block_below Y.out (hb9)); replace R := Lib.hid (R.out.below (hb9)); replace K := Lib.hid (nextB K.out (hb9)); clear hb9; clear hr9; obtain ⟨y0, y1, y2⟩ := cells3 (Y.out)) | (go_at_call 59; (with_reducible refine (SK.out _ _ RI.out).mono ?_); rintro e w10 ⟨rfl, r10, o10⟩; replace X := Lib.hid (block_only X.out o10 (by omega)); replace F := Lib.hid (block_only F.out o10 (by omega)); replace Y := Lib.hid (block_only Y.out o10 (by omega)); replace R := Lib.hid (R.out.only o10 (by omega)); replace K := Lib.hid (onlyB K.out o10 (by omega)); clear o10; replace RI := Lib.hid r10; clear r10; obtain ⟨y0, y1, y2⟩ := cells3 (Y.out); have hr10 := R.out.lt; have hy10 := (Array.getElem?_eq_some_iff.1 Y.out).1; have hk10 := K.out.size) | (go_at_call 60; (with_reducible refine (FR.out _ _ RI.out).mono ?_); rintro e w11 ⟨u, rfl, hv, r11, o11⟩; obtain ⟨a1, cp1, hv1, _, _⟩ := hv.at; rw [List.length_map] at hv1; subst hv1; have V := Lib.hid hv; replace X := Lib.hid (block_only X.out o11 (by omega)); replace F := Lib.hid (block_only F.out o11 (by omega)); replace Y := Lib.hid (block_only Y.out o11 (by omega)); replace R := Lib.hid (R.out.only o11 (by omega)); replace K := Lib.hid (onlyB K.out o11 (by omega)); clear o11; replace RI := Lib.hid r11; clear r11 hv) | (go_at_call 56; (with_reducible refine (FI.out _ _ RI.out).mono ?_); rintro e w12 ⟨rfl, hb12⟩; replace X := Lib.hid (block_below X.out (hb12)); replace F := Lib.hid (block_below F.out (hb12)); replace Y := Lib.hid (block_below Y.out (hb12)); replace R := Lib.hid (R.out.below (hb12)); replace V := Lib.hid (V.out.below (hb12)); replace K := Lib.hid (nextB K.out (hb12)); clear hb12; have hy12 := (Array.getElem?_eq_some_iff.1 Y.out).1) | (go_at_call 22; (with_reducible refine (FT.out _).mono ?_); rintro e w14 ⟨rfl, hb14⟩; replace X := Lib.hid (block_below X.out (hb14)); replace F := Lib.hid (block_below F.out (hb14)); replace Y := Lib.hid (block_below Y.out (hb14)); replace R := Lib.hid (R.out.below (hb14)); replace V := Lib.hid (V.out.below (hb14)); replace K := Lib.hid (nextB K.out (hb14)); clear hb14))
  obtain ⟨x0, x1, x2, x3⟩ := cells4 (X.out); obtain ⟨xf0, xf1, xf2, xf3⟩ := frees4 (X.out)
  obtain ⟨f0, f1⟩ := cells2 (F.out); obtain ⟨ff0, ff1⟩ := frees2 (F.out)
  clear y0 y1 y2 yf0 yf1 yf2
  replace Y : Hid ((w18.setCell ⟨w2.heap.size, 2, none⟩ (.int .u8 f2.toNat)).heap[w2.heap.size]? = some (.cells #[.int .i64 v, .int .u8 rv.toNat, .int .u8 f2.toNat] 23 (0, 0))) := Lib.hid (setCell_at (j := 2) (v := .int .u8 f2.toNat) Y.out)
  replace X := Lib.hid ((heap_set_other (b := w.heap.size) (c := w2.heap.size) (j := 2) (.int .u8 f2.toNat) (by omega)).trans X.out)
  replace F := Lib.hid ((heap_set_other (b := w.heap.size + 1) (c := w2.heap.size) (j := 2) (.int .u8 f2.toNat) (by omega)).trans F.out)
  replace R := Lib.hid (R.out.only (Only.set (b := w2.heap.size) (j := 2) (.int .u8 f2.toNat)) (by omega))
  replace V := Lib.hid (V.out.onlyT (Only.set (b := w2.heap.size) (j := 2) (.int .u8 f2.toNat)) (by omega))
  replace K := Lib.hid (Below.setCell (p := ⟨w2.heap.size, 2, none⟩) K.out (by show w.heap.size ≤ w2.heap.size; omega) (.int .u8 f2.toNat))
  generalize w18.setCell ⟨w2.heap.size, 2, none⟩ (.int .u8 f2.toNat) = v0 at *
  clear x0 x1 x2 x3 xf0 xf1 xf2 xf3 f0 f1 ff0 ff1 e64
  have cc : v0.cell? ⟨w2.heap.size, 0, none⟩ = some (.int .i64 v) ∧ v0.cell? ⟨w2.heap.size, 1, none⟩ = some (.int .u8 rv.toNat) ∧ v0.cell? ⟨w2.heap.size, 2, none⟩ = some (.int .u8 f2.toNat) := ⟨cell_at (j := 0) (Y.out), cell_at (j := 1) (Y.out), cell_at (j := 2) (Y.out)⟩
  have n1 : w.heap.size ≠ w.heap.size + 1 := by omega
  have n2 : w2.heap.size ≠ w.heap.size := by omega
  have n3 : w2.heap.size ≠ w.heap.size + 1 := by omega
  clear g3 g4 t1 t2
  have ccd : (World.drew v0).cell? ⟨w2.heap.size, 0, none⟩ = some (.int .i64 v) ∧ (World.drew v0).cell? ⟨w2.heap.size, 1, none⟩ = some (.int .u8 rv.toNat) ∧ (World.drew v0).cell? ⟨w2.heap.size, 2, none⟩ = some (.int .u8 f2.toNat) := cc
  go_region_held3 (fun w' => w'.cell? ⟨w2.heap.size, 0, none⟩ = some (.int .i64 v) ∧ w'.cell? ⟨w2.heap.size, 1, none⟩ = some (.int .u8 rv.toNat) ∧ w'.cell? ⟨w2.heap.size, 2, none⟩ = some (.int .u8 f2.toNat)) (first | with_reducible exact ccd | with_reducible exact x19 | with_reducible exact keepS n2 (keepS n2 (keepS n2 (keepS n2 x19))) | with_reducible exact keepS n3 (keepS n3 (keepS n2 (keepS n2 (keepS n2 (keepS n2 x19))))) | fail)
    (first | (go_at_call 62; (with_reducible refine (RS.out _ (World.drew v0) R.out.drew).mono ?_); rintro e w19 ⟨rfl, r19, o19⟩; have o20 := fr_drewO o19; have x19 : w19.cell? ⟨w2.heap.size, 0, none⟩ = some (.int .i64 v) ∧ w19.cell? ⟨w2.heap.size, 1, none⟩ = some (.int .u8 rv.toNat) ∧ w19.cell? ⟨w2.heap.size, 2, none⟩ = some (.int .u8 f2.toNat) := ⟨cell_at (j := 0) (block_only Y.out o20 (by omega)), cell_at (j := 1) (block_only Y.out o20 (by omega)), cell_at (j := 2) (block_only Y.out o20 (by omega))⟩; replace X := Lib.hid (block_only X.out o20 (by omega)); replace F := Lib.hid (block_only F.out o20 (by omega)); replace V := Lib.hid (V.out.onlyT o20 (by omega)); replace K := Lib.hid (onlyB K.out o20 (by omega)); obtain ⟨x0, x1, x2, x3⟩ := cells4 (X.out); obtain ⟨xf0, xf1, xf2, xf3⟩ := frees4 (X.out); obtain ⟨f0, f1⟩ := cells2 (F.out); obtain ⟨ff0, ff1⟩ := frees2 (F.out); clear r19 o19 o20))
  go_wp2
  have hc := two_cells (a0 := .int .i64 v) (a1 := .int .u8 rv.toNat) (a2 := .int .u8 f2.toNat) (a3 := .slice a1 fs.length cp1) (d0 := .int .i64 0) (d1 := .int .i64 0) X.out F.out rfl rfl n1
  refine end_ctc rfl rfl rfl hc.1 Try.underlying26 rfl (by kernel_rfl) rfl hc.2 Try.underlying31 rfl (by kernel_rfl) ⟨_, rfl, ?_, two_below K.out (Nat.le_refl _) (by omega) _ _ _ _ _ _⟩
  exact ((((((V.out.onlyT (Only.set _) (by omega)).onlyT (Only.set _) (by omega)).onlyT (Only.set _) (by omega)).onlyT (Only.set _) (by omega)).onlyT (Only.set _) (by omega)).onlyT (Only.set _) (by omega)).base (by omega)
set_option maxHeartbeats 8000000 in
set_option maxRecDepth 100000 in
theorem tparse_bad3_1 (l : List UInt8) (v : Int) (rv fl : UInt8) (n c1 q1 c2 q2 c3 q3 : Int) (m0 m1 m2 m3 m4 m5 m6 i0 i1 i2 : Rd) (body0 body rest : List UInt8) (ok1 ok2 : Bool) (fs : List Fr) (w : World) (h3 : 3 ≤ l.length) (hid : l.take 3 = [73, 68, 51])
    (RD : Hid (∀ w, Calls Try.prog 52 #[.string ⟨l.toArray⟩] w fun e w' => e = .returned (.pointer (some ⟨w.heap.size, 0, none⟩)) ∧ RdAt w' w.heap.size m0 ∧ Below w.heap.size w w'))
    (HD : Hid (∀ b w, RdAt w b m0 → Calls Try.prog 53 #[.pointer (some ⟨b, 0, none⟩)] w fun e w' => e = .returned (.agg #[.int .i64 v, .int .u8 rv.toNat, .int .u8 fl.toNat]) ∧ RdAt w' b m1 ∧ Only b w w'))
    (SF : Hid (∀ b w, RdAt w b m1 → Calls Try.prog 55 #[.pointer (some ⟨b, 0, none⟩)] w fun e w' => e = .returned (.int .i64 n) ∧ RdAt w' b m2 ∧ Only b w w'))
    (TK : Hid (∀ b w, RdAt w b m2 → Calls Try.prog 54 #[.pointer (some ⟨b, 0, none⟩), .int .i64 n] w fun e w' => e = .returned (.string ⟨body0.toArray⟩) ∧ RdAt w' b m3 ∧ Only b w w'))
    (FA : Hid (∀ b w, RdAt w b m3 → Calls Try.prog 56 #[.pointer (some ⟨b, 0, none⟩)] w fun e w' => e = .returned (.agg #[.int .i64 c1, .int .i64 q1]) ∧ Below w.heap.size w w'))
    (WH : Hid (∀ w, Calls Try.prog 57 #[.agg #[.int .i64 v, .int .u8 rv.toNat, .int .u8 fl.toNat]] w fun e w' => e = .returned (.bool true) ∧ Below w.heap.size w w'))
    (DR : Hid (∀ w, Calls Try.prog 45 #[.string ⟨body0.toArray⟩] w fun e w' => e = .returned (.string ⟨body.toArray⟩) ∧ Below w.heap.size w w'))
    (IN : Hid (∀ w, Calls Try.prog 58 #[.string ⟨body.toArray⟩, .int .i64 10] w fun e w' => e = .returned (.pointer (some ⟨w.heap.size, 0, none⟩)) ∧ RdAt w' w.heap.size i0 ∧ Below w.heap.size w w'))
    (SK : Hid (∀ b w, RdAt w b i0 → Calls Try.prog 59 #[.agg #[.int .i64 v, .int .u8 rv.toNat, .int .u8 fl.toNat], .pointer (some ⟨b, 0, none⟩)] w (TSkip b i1 w)))
    (FR : Hid (∀ b w, RdAt w b i1 → Calls Try.prog 60 #[.agg #[.int .i64 v, .int .u8 rv.toNat, .int .u8 fl.toNat], .pointer (some ⟨b, 0, none⟩)] w (TFrames b i2 fs w)))
    (FI : Hid (∀ b w, RdAt w b i2 → Calls Try.prog 56 #[.pointer (some ⟨b, 0, none⟩)] w fun e w' => e = .returned (.agg #[.int .i64 c2, .int .i64 q2]) ∧ Below w.heap.size w w'))
    (FT : Hid (∀ w, Calls Try.prog 22 #[.agg #[.int .i64 v, .int .u8 rv.toNat, .int .u8 fl.toNat]] w fun e w' => e = .returned (.bool true) ∧ Below w.heap.size w w'))
    (W1 : Hid (∀ b w, RdAt w b m3 → Calls Try.prog 61 #[.pointer (some ⟨b, 0, none⟩), .string ⟨#[51, 68, 73]⟩] w fun e w' => e = .returned (.bool ok1) ∧ RdAt w' b m4 ∧ Only b w w'))
    (W2 : Hid (∀ b w, RdAt w b m4 → Calls Try.prog 61 #[.pointer (some ⟨b, 0, none⟩), .string ⟨((l.drop 3).take 7).toArray⟩] w fun e w' => e = .returned (.bool ok2) ∧ RdAt w' b m5 ∧ Only b w w'))
    (FB : Hid (∀ b w, RdAt w b m5 → Calls Try.prog 56 #[.pointer (some ⟨b, 0, none⟩)] w fun e w' => e = .returned (.agg #[.int .i64 c3, .int .i64 q3]) ∧ Below w.heap.size w w'))
    (hc1 : c1 = 0) (hc2 : c2 = 0) (hc3 : c3 ≠ 0) (h10 : 10 ≤ l.length)
    : Calls Try.prog 17 #[.string ⟨l.toArray⟩] w (TParse zeroT [] c3 q3 w) := by
  have g10 : (10 : Int) ≤ l.length := by omega
  have BD1 := Lib.hid (fun w => bad_any c1 q1 w)
  rw [hc1] at BD1
  rw [show ((0 : Int) != 0) = false by rfl] at BD1
  rw [hc1] at FA
  clear hc1
  have BD2 := Lib.hid (fun w => bad_any c2 q2 w)
  rw [hc2] at BD2
  rw [show ((0 : Int) != 0) = false by rfl] at BD2
  rw [hc2] at FI
  clear hc2
  have BD3 := Lib.hid (fun w => bad_any c3 q3 w)
  rw [show (c3 != 0) = true by simpa using hc3] at BD3
  clear hc3
  have g3 : ¬ (l.length : Int) < 3 := by omega
  have g4 : (3 : Int) ≤ l.length := by omega
  have t1 : (l.take 3 = [73, 68, 51]) = True := eq_true hid
  have t2 : (l.take 3 == [73, 68, 51]) = true := by simpa using hid
  clear hid
  try unfold TSkip at *
  try unfold TFrames at *
  unfold TParse
  go_enter Try.func17, Try.ntmps17
  go_upto_region 3 with (fail)
  have X := Lib.hid (at_a1 w #[.int .i64 0, .int .u8 0, .int .u8 0, .slice none 0 0] 26 (.cells #[.int .i64 0, .int .i64 0] 31))
  have F := Lib.hid (at_a2 w #[.int .i64 0, .int .i64 0] 31 (.cells #[.int .i64 0, .int .u8 0, .int .u8 0, .slice none 0 0] 26))
  have K : Hid (Below w.heap.size w ((w.alloc (.cells #[.int .i64 0, .int .u8 0, .int .u8 0, .slice none 0 0] 26)).alloc (.cells #[.int .i64 0, .int .i64 0] 31))) := Lib.hid (((Below.refl _ _).alloc (Nat.le_refl _) _).alloc (by simp) _)
  have hw0 : w.heap.size + 1 < ((w.alloc (.cells #[.int .i64 0, .int .u8 0, .int .u8 0, .slice none 0 0] 26)).alloc (.cells #[.int .i64 0, .int .i64 0] 31)).heap.size := by simp
  generalize (w.alloc (.cells #[.int .i64 0, .int .u8 0, .int .u8 0, .slice none 0 0] 26)).alloc (.cells #[.int .i64 0, .int .i64 0] 31) = w0 at *
  go_upto_region 22 with (first | (go_at_call 16; have _chk := H17; (with_reducible refine (BD3.out _).mono ?_); rintro e w18 ⟨rfl, hb18⟩; have G := Lib.hid (block_below (at_a0 w17 #[.int .i64 c3, .int .i64 q3] 31) hb18); replace X := Lib.hid (block_below X.out (below_a1 hb18)); replace F := Lib.hid (block_below F.out (below_a1 hb18)); replace Y := Lib.hid (block_below Y.out (below_a1 hb18)); replace R := Lib.hid (R.out.below (below_a1 hb18)); replace V := Lib.hid (V.out.below (below_a1 hb18)); replace K := Lib.hid (nextB K.out (below_a1 hb18)); clear hb18; obtain ⟨y0, y1, y2⟩ := cells3 (Y.out); obtain ⟨yf0, yf1, yf2⟩ := frees3 (Y.out)) | (go_at_call 16; have _chk := V; (with_reducible refine (BD2.out _).mono ?_); rintro e w13 ⟨rfl, hb13⟩; replace X := Lib.hid (block_below X.out (below_a1 hb13)); replace F := Lib.hid (block_below F.out (below_a1 hb13)); replace Y := Lib.hid (block_below Y.out (below_a1 hb13)); replace R := Lib.hid (R.out.below (below_a1 hb13)); replace V := Lib.hid (V.out.below (below_a1 hb13)); replace K := Lib.hid (nextB K.out (below_a1 hb13)); clear hb13; obtain ⟨y0, y1, y2⟩ := cells3 (Y.out)) | (go_at_call 56; have _chk := V; (with_reducible refine (FB.out _ _ R.out).mono ?_); rintro e w17 ⟨rfl, hb17⟩; have H17 := True.intro; replace X := Lib.hid (block_below X.out (hb17)); replace F := Lib.hid (block_below F.out (hb17)); replace Y := Lib.hid (block_below Y.out (hb17)); replace R := Lib.hid (R.out.below (hb17)); replace V := Lib.hid (V.out.below (hb17)); replace K := Lib.hid (nextB K.out (hb17)); clear hb17; have hy17 := (Array.getElem?_eq_some_iff.1 Y.out).1) | (go_at_call 52; (with_reducible refine (RD.out _).mono ?_); rintro e w1 ⟨rfl, hr1, hb1⟩; have R := Lib.hid hr1; replace X := Lib.hid (block_below X.out (hb1)); replace F := Lib.hid (block_below F.out (hb1)); replace K := Lib.hid (nextB K.out (hb1)); clear hb1; clear hr1) | (go_at_call 53; (with_reducible refine (HD.out _ _ R.out).mono ?_); rintro e w2 ⟨rfl, r2, o2⟩; replace X := Lib.hid (block_only X.out o2 (by omega)); replace F := Lib.hid (block_only F.out o2 (by omega)); replace K := Lib.hid (onlyB K.out o2 (by omega)); clear o2; replace R := Lib.hid r2; have hr2 := R.out.lt; clear r2) | (go_at_call 55; (with_reducible refine (SF.out _ _ (R.out.alloc _)).mono ?_); rintro e w3 ⟨rfl, r3, o3⟩; have Y := Lib.hid (at_a0 w2 #[.int .i64 v, .int .u8 rv.toNat, .int .u8 fl.toNat] 23); replace X := Lib.hid (block_below X.out ((Below.refl w2.heap.size w2).alloc (Nat.le_refl _) (.cells #[.int .i64 v, .int .u8 rv.toNat, .int .u8 fl.toNat] 23))); replace F := Lib.hid (block_below F.out ((Below.refl w2.heap.size w2).alloc (Nat.le_refl _) (.cells #[.int .i64 v, .int .u8 rv.toNat, .int .u8 fl.toNat] 23))); replace K := Lib.hid (nextB K.out ((Below.refl w2.heap.size w2).alloc (Nat.le_refl _) (.cells #[.int .i64 v, .int .u8 rv.toNat, .int .u8 fl.toNat] 23))); replace X := Lib.hid (block_only X.out o3 (by omega)); replace F := Lib.hid (block_only F.out o3 (by omega)); replace Y := Lib.hid (block_only Y.out o3 (by omega)); replace K := Lib.hid (onlyB K.out o3 (by omega)); clear o3; replace R := Lib.hid r3; clear r3) | (go_at_call 54; (with_reducible refine (TK.out _ _ R.out).mono ?_); rintro e w4 ⟨rfl, r4, o4⟩; replace X := Lib.hid (block_only X.out o4 (by omega)); replace F := Lib.hid (block_only F.out o4 (by omega)); replace Y := Lib.hid (block_only Y.out o4 (by omega)); replace K := Lib.hid (onlyB K.out o4 (by omega)); clear o4; replace R := Lib.hid r4; clear r4) | (go_at_call 56; (with_reducible refine (FA.out _ _ R.out).mono ?_); rintro e w5 ⟨rfl, hb5⟩; have F1 := hb5; clear F1; replace X := Lib.hid (block_below X.out (hb5)); replace F := Lib.hid (block_below F.out (hb5)); replace Y := Lib.hid (block_below Y.out (hb5)); replace R := Lib.hid (R.out.below (hb5)); replace K := Lib.hid (nextB K.out (hb5)); clear hb5; have hy5 := (Array.getElem?_eq_some_iff.1 Y.out).1) | (go_at_call 16; (with_reducible refine (BD1.out _).mono ?_); rintro e w6 ⟨rfl, hb6⟩; replace X := Lib.hid (block_below X.out (below_a1 hb6)); replace F := Lib.hid (block_below F.out (below_a1 hb6)); replace Y := Lib.hid (block_below Y.out (below_a1 hb6)); replace R := Lib.hid (R.out.below (below_a1 hb6)); replace K := Lib.hid (nextB K.out (below_a1 hb6)); clear hb6; obtain ⟨y0, y1, y2⟩ := cells3 (Y.out); have hy6 := (Array.getElem?_eq_some_iff.1 Y.out).1; have hr6 := R.out.lt) | (go_at_call 57; (with_reducible refine (WH.out _).mono ?_); rintro e w7 ⟨rfl, hb7⟩; replace X := Lib.hid (block_below X.out (hb7)); replace F := Lib.hid (block_below F.out (hb7)); replace Y := Lib.hid (block_below Y.out (hb7)); replace R := Lib.hid (R.out.below (hb7)); replace K := Lib.hid (nextB K.out (hb7)); clear hb7; have hy7 := (Array.getElem?_eq_some_iff.1 Y.out).1; have hr7 := R.out.lt) | (go_at_call 45; (with_reducible refine (DR.out _).mono ?_); rintro e w8 ⟨rfl, hb8⟩; replace X := Lib.hid (block_below X.out (hb8)); replace F := Lib.hid (block_below F.out (hb8)); replace Y := Lib.hid (block_below Y.out (hb8)); replace R := Lib.hid (R.out.below (hb8)); replace K := Lib.hid (nextB K.out (hb8)); clear hb8; have hy8 := (Array.getElem?_eq_some_iff.1 Y.out).1; have hr8 := R.out.lt) | (go_at_call 58; (with_reducible refine (IN.out _).mono ?_); rintro e w9 ⟨rfl, hr9, hb9⟩; have RI := Lib.hid hr9; replace X := Lib.hid (block_below X.out (hb9)); replace F := Lib.hid (block_below F.out (hb9)); replace Y := Lib.hid (block_below Y.out (hb9)); replace R := Lib.hid (R.out.below (hb9)); replace K := Lib.hid (nextB K.out (hb9)); clear hb9; clear hr9; obtain ⟨y0, y1, y2⟩ := cells3 (Y.out)) | (go_at_call 59; (with_reducible refine (SK.out _ _ RI.out).mono ?_); rintro e w10 ⟨rfl, r10, o10⟩; replace X := Lib.hid (block_only X.out o10 (by omega)); replace F := Lib.hid (block_only F.out o10 (by omega)); replace Y := Lib.hid (block_only Y.out o10 (by omega)); replace R := Lib.hid (R.out.only o10 (by omega)); replace K := Lib.hid (onlyB K.out o10 (by omega)); clear o10; replace RI := Lib.hid r10; clear r10; obtain ⟨y0, y1, y2⟩ := cells3 (Y.out); have hr10 := R.out.lt; have hy10 := (Array.getElem?_eq_some_iff.1 Y.out).1; have hk10 := K.out.size) | (go_at_call 60; (with_reducible refine (FR.out _ _ RI.out).mono ?_); rintro e w11 ⟨u, rfl, hv, r11, o11⟩; obtain ⟨a1, cp1, hv1, _, _⟩ := hv.at; rw [List.length_map] at hv1; subst hv1; have V := Lib.hid hv; replace X := Lib.hid (block_only X.out o11 (by omega)); replace F := Lib.hid (block_only F.out o11 (by omega)); replace Y := Lib.hid (block_only Y.out o11 (by omega)); replace R := Lib.hid (R.out.only o11 (by omega)); replace K := Lib.hid (onlyB K.out o11 (by omega)); clear o11; replace RI := Lib.hid r11; clear r11 hv) | (go_at_call 56; (with_reducible refine (FI.out _ _ RI.out).mono ?_); rintro e w12 ⟨rfl, hb12⟩; replace X := Lib.hid (block_below X.out (hb12)); replace F := Lib.hid (block_below F.out (hb12)); replace Y := Lib.hid (block_below Y.out (hb12)); replace R := Lib.hid (R.out.below (hb12)); replace V := Lib.hid (V.out.below (hb12)); replace K := Lib.hid (nextB K.out (hb12)); clear hb12; have hy12 := (Array.getElem?_eq_some_iff.1 Y.out).1) | (go_at_call 22; (with_reducible refine (FT.out _).mono ?_); rintro e w14 ⟨rfl, hb14⟩; replace X := Lib.hid (block_below X.out (hb14)); replace F := Lib.hid (block_below F.out (hb14)); replace Y := Lib.hid (block_below Y.out (hb14)); replace R := Lib.hid (R.out.below (hb14)); replace V := Lib.hid (V.out.below (hb14)); replace K := Lib.hid (nextB K.out (hb14)); clear hb14) | (go_at_call 61; (with_reducible refine (W1.out _ _ R.out).mono ?_); rintro e w15 ⟨rfl, r15, o15⟩; replace X := Lib.hid (block_only X.out o15 (by omega)); replace F := Lib.hid (block_only F.out o15 (by omega)); replace Y := Lib.hid (block_only Y.out o15 (by omega)); replace V := Lib.hid (V.out.onlyT o15 (by omega)); replace K := Lib.hid (onlyB K.out o15 (by omega)); clear o15; replace R := Lib.hid r15; clear r15) | (go_at_call 61; (with_reducible refine (W2.out _ _ R.out).mono ?_); rintro e w16 ⟨rfl, r16, o16⟩; replace X := Lib.hid (block_only X.out o16 (by omega)); replace F := Lib.hid (block_only F.out o16 (by omega)); replace Y := Lib.hid (block_only Y.out o16 (by omega)); replace V := Lib.hid (V.out.onlyT o16 (by omega)); replace K := Lib.hid (onlyB K.out o16 (by omega)); clear o16; replace R := Lib.hid r16; clear r16))
  obtain ⟨x0, x1, x2, x3⟩ := cells4 (X.out); obtain ⟨xf0, xf1, xf2, xf3⟩ := frees4 (X.out)
  obtain ⟨f0, f1⟩ := cells2 (F.out); obtain ⟨ff0, ff1⟩ := frees2 (F.out)
  obtain ⟨g0, g1⟩ := cells2 (G.out)
  have hg := (Array.getElem?_eq_some_iff.1 G.out).1
  have n1 : w.heap.size ≠ w.heap.size + 1 := by omega
  have n2 : w.heap.size ≠ w17.heap.size := by omega
  have n3 : w.heap.size + 1 ≠ w17.heap.size := by omega
  have XD := Lib.hid X.out
  have FD := Lib.hid F.out
  have KD := Lib.hid K.out
  clear R Y K X F G V RI RD HD SF TK FA BD1 WH IN SK FR FI BD2 FT W1 W2 FB BD3 DR
  go_region
  go_wp2
  have hc := two_cells (a0 := .int .i64 0) (a1 := .int .u8 0) (a2 := .int .u8 0) (a3 := .slice none 0 0) (d0 := .int .i64 c3) (d1 := .int .i64 q3) XD.out FD.out rfl rfl n1
  exact end_ctc rfl rfl rfl (block_drew hc.1) Try.underlying26 rfl (by kernel_rfl) rfl (block_drew hc.2) Try.underlying31 rfl (by kernel_rfl) ⟨_, rfl, Recs.nil _ _ _ _, (two_below KD.out (Nat.le_refl _) (by omega) _ _ _ _ _ _).drew⟩
set_option maxHeartbeats 8000000 in
set_option maxRecDepth 100000 in
theorem tparse_good_11 (l : List UInt8) (v : Int) (rv fl : UInt8) (n c1 q1 c2 q2 c3 q3 : Int) (m0 m1 m2 m3 m4 m5 m6 i0 i1 i2 : Rd) (body0 body rest : List UInt8) (ok1 ok2 : Bool) (fs : List Fr) (w : World) (h3 : 3 ≤ l.length) (hid : l.take 3 = [73, 68, 51])
    (RD : Hid (∀ w, Calls Try.prog 52 #[.string ⟨l.toArray⟩] w fun e w' => e = .returned (.pointer (some ⟨w.heap.size, 0, none⟩)) ∧ RdAt w' w.heap.size m0 ∧ Below w.heap.size w w'))
    (HD : Hid (∀ b w, RdAt w b m0 → Calls Try.prog 53 #[.pointer (some ⟨b, 0, none⟩)] w fun e w' => e = .returned (.agg #[.int .i64 v, .int .u8 rv.toNat, .int .u8 fl.toNat]) ∧ RdAt w' b m1 ∧ Only b w w'))
    (SF : Hid (∀ b w, RdAt w b m1 → Calls Try.prog 55 #[.pointer (some ⟨b, 0, none⟩)] w fun e w' => e = .returned (.int .i64 n) ∧ RdAt w' b m2 ∧ Only b w w'))
    (TK : Hid (∀ b w, RdAt w b m2 → Calls Try.prog 54 #[.pointer (some ⟨b, 0, none⟩), .int .i64 n] w fun e w' => e = .returned (.string ⟨body0.toArray⟩) ∧ RdAt w' b m3 ∧ Only b w w'))
    (FA : Hid (∀ b w, RdAt w b m3 → Calls Try.prog 56 #[.pointer (some ⟨b, 0, none⟩)] w fun e w' => e = .returned (.agg #[.int .i64 c1, .int .i64 q1]) ∧ Below w.heap.size w w'))
    (WH : Hid (∀ w, Calls Try.prog 57 #[.agg #[.int .i64 v, .int .u8 rv.toNat, .int .u8 fl.toNat]] w fun e w' => e = .returned (.bool true) ∧ Below w.heap.size w w'))
    (DR : Hid (∀ w, Calls Try.prog 45 #[.string ⟨body0.toArray⟩] w fun e w' => e = .returned (.string ⟨body.toArray⟩) ∧ Below w.heap.size w w'))
    (IN : Hid (∀ w, Calls Try.prog 58 #[.string ⟨body.toArray⟩, .int .i64 10] w fun e w' => e = .returned (.pointer (some ⟨w.heap.size, 0, none⟩)) ∧ RdAt w' w.heap.size i0 ∧ Below w.heap.size w w'))
    (SK : Hid (∀ b w, RdAt w b i0 → Calls Try.prog 59 #[.agg #[.int .i64 v, .int .u8 rv.toNat, .int .u8 fl.toNat], .pointer (some ⟨b, 0, none⟩)] w (TSkip b i1 w)))
    (FR : Hid (∀ b w, RdAt w b i1 → Calls Try.prog 60 #[.agg #[.int .i64 v, .int .u8 rv.toNat, .int .u8 fl.toNat], .pointer (some ⟨b, 0, none⟩)] w (TFrames b i2 fs w)))
    (FI : Hid (∀ b w, RdAt w b i2 → Calls Try.prog 56 #[.pointer (some ⟨b, 0, none⟩)] w fun e w' => e = .returned (.agg #[.int .i64 c2, .int .i64 q2]) ∧ Below w.heap.size w w'))
    (FT : Hid (∀ w, Calls Try.prog 22 #[.agg #[.int .i64 v, .int .u8 rv.toNat, .int .u8 fl.toNat]] w fun e w' => e = .returned (.bool true) ∧ Below w.heap.size w w'))
    (W1 : Hid (∀ b w, RdAt w b m3 → Calls Try.prog 61 #[.pointer (some ⟨b, 0, none⟩), .string ⟨#[51, 68, 73]⟩] w fun e w' => e = .returned (.bool ok1) ∧ RdAt w' b m4 ∧ Only b w w'))
    (W2 : Hid (∀ b w, RdAt w b m4 → Calls Try.prog 61 #[.pointer (some ⟨b, 0, none⟩), .string ⟨((l.drop 3).take 7).toArray⟩] w fun e w' => e = .returned (.bool ok2) ∧ RdAt w' b m5 ∧ Only b w w'))
    (FB : Hid (∀ b w, RdAt w b m5 → Calls Try.prog 56 #[.pointer (some ⟨b, 0, none⟩)] w fun e w' => e = .returned (.agg #[.int .i64 c3, .int .i64 q3]) ∧ Below w.heap.size w w'))
    (RS : Hid (∀ b w, RdAt w b m5 → Calls Try.prog 62 #[.pointer (some ⟨b, 0, none⟩)] w fun e w' => e = .returned (.string ⟨rest.toArray⟩) ∧ RdAt w' b m6 ∧ Only b w w'))
    (hc1 : c1 = 0) (hc2 : c2 = 0) (hc3 : c3 = 0) (f2 : UInt8) (e64 : bits .andNot .u8 (fl.toNat : Int) 64 = (f2.toNat : Int)) (h10 : 10 ≤ l.length)
    : Calls Try.prog 17 #[.string ⟨l.toArray⟩] w (TParse ⟨v, rv, f2, fs⟩ rest 0 0 w) := by
  have g10 : (10 : Int) ≤ l.length := by omega
  have BD1 := Lib.hid (fun w => bad_any c1 q1 w)
  rw [hc1] at BD1
  rw [show ((0 : Int) != 0) = false by rfl] at BD1
  rw [hc1] at FA
  clear hc1
  have BD2 := Lib.hid (fun w => bad_any c2 q2 w)
  rw [hc2] at BD2
  rw [show ((0 : Int) != 0) = false by rfl] at BD2
  rw [hc2] at FI
  clear hc2
  have BD3 := Lib.hid (fun w => bad_any c3 q3 w)
  rw [hc3] at BD3
  rw [show ((0 : Int) != 0) = false by rfl] at BD3
  rw [hc3] at FB
  clear hc3
  have g3 : ¬ (l.length : Int) < 3 := by omega
  have g4 : (3 : Int) ≤ l.length := by omega
  have t1 : (l.take 3 = [73, 68, 51]) = True := eq_true hid
  have t2 : (l.take 3 == [73, 68, 51]) = true := by simpa using hid
  clear hid
  try unfold TSkip at *
  try unfold TFrames at *
  unfold TParse
  go_enter Try.func17, Try.ntmps17
  go_upto_region 3 with (fail)
  have X := Lib.hid (at_a1 w #[.int .i64 0, .int .u8 0, .int .u8 0, .slice none 0 0] 26 (.cells #[.int .i64 0, .int .i64 0] 31))
  have F := Lib.hid (at_a2 w #[.int .i64 0, .int .i64 0] 31 (.cells #[.int .i64 0, .int .u8 0, .int .u8 0, .slice none 0 0] 26))
  have K : Hid (Below w.heap.size w ((w.alloc (.cells #[.int .i64 0, .int .u8 0, .int .u8 0, .slice none 0 0] 26)).alloc (.cells #[.int .i64 0, .int .i64 0] 31))) := Lib.hid (((Below.refl _ _).alloc (Nat.le_refl _) _).alloc (by simp) _)
  have hw0 : w.heap.size + 1 < ((w.alloc (.cells #[.int .i64 0, .int .u8 0, .int .u8 0, .slice none 0 0] 26)).alloc (.cells #[.int .i64 0, .int .i64 0] 31)).heap.size := by simp
  generalize (w.alloc (.cells #[.int .i64 0, .int .u8 0, .int .u8 0, .slice none 0 0] 26)).alloc (.cells #[.int .i64 0, .int .i64 0] 31) = w0 at *
  go_upto_region 24 with (first | (go_at_call 16; have _chk := H17; (with_reducible refine (BD3.out _).mono ?_); rintro e w18 ⟨rfl, hb18⟩; replace X := Lib.hid (block_below X.out (below_a1 hb18)); replace F := Lib.hid (block_below F.out (below_a1 hb18)); replace Y := Lib.hid (block_below Y.out (below_a1 hb18)); replace R := Lib.hid (R.out.below (below_a1 hb18)); replace V := Lib.hid (V.out.below (below_a1 hb18)); replace K := Lib.hid (nextB K.out (below_a1 hb18)); clear hb18; obtain ⟨y0, y1, y2⟩ := cells3 (Y.out); obtain ⟨yf0, yf1, yf2⟩ := frees3 (Y.out)) | (go_at_call 16; have _chk := V; (with_reducible refine (BD2.out _).mono ?_); rintro e w13 ⟨rfl, hb13⟩; replace X := Lib.hid (block_below X.out (below_a1 hb13)); replace F := Lib.hid (block_below F.out (below_a1 hb13)); replace Y := Lib.hid (block_below Y.out (below_a1 hb13)); replace R := Lib.hid (R.out.below (below_a1 hb13)); replace V := Lib.hid (V.out.below (below_a1 hb13)); replace K := Lib.hid (nextB K.out (below_a1 hb13)); clear hb13; obtain ⟨y0, y1, y2⟩ := cells3 (Y.out)) | (go_at_call 56; have _chk := V; (with_reducible refine (FB.out _ _ R.out).mono ?_); rintro e w17 ⟨rfl, hb17⟩; have H17 := True.intro; replace X := Lib.hid (block_below X.out (hb17)); replace F := Lib.hid (block_below F.out (hb17)); replace Y := Lib.hid (block_below Y.out (hb17)); replace R := Lib.hid (R.out.below (hb17)); replace V := Lib.hid (V.out.below (hb17)); replace K := Lib.hid (nextB K.out (hb17)); clear hb17; have hy17 := (Array.getElem?_eq_some_iff.1 Y.out).1) | (go_at_call 52; (with_reducible refine (RD.out _).mono ?_); rintro e w1 ⟨rfl, hr1, hb1⟩; have R := Lib.hid hr1; replace X := Lib.hid (block_below X.out (hb1)); replace F := Lib.hid (block_below F.out (hb1)); replace K := Lib.hid (nextB K.out (hb1)); clear hb1; clear hr1) | (go_at_call 53; (with_reducible refine (HD.out _ _ R.out).mono ?_); rintro e w2 ⟨rfl, r2, o2⟩; replace X := Lib.hid (block_only X.out o2 (by omega)); replace F := Lib.hid (block_only F.out o2 (by omega)); replace K := Lib.hid (onlyB K.out o2 (by omega)); clear o2; replace R := Lib.hid r2; have hr2 := R.out.lt; clear r2) | (go_at_call 55; (with_reducible refine (SF.out _ _ (R.out.alloc _)).mono ?_); rintro e w3 ⟨rfl, r3, o3⟩; have Y := Lib.hid (at_a0 w2 #[.int .i64 v, .int .u8 rv.toNat, .int .u8 fl.toNat] 23); replace X := Lib.hid (block_below X.out ((Below.refl w2.heap.size w2).alloc (Nat.le_refl _) (.cells #[.int .i64 v, .int .u8 rv.toNat, .int .u8 fl.toNat] 23))); replace F := Lib.hid (block_below F.out ((Below.refl w2.heap.size w2).alloc (Nat.le_refl _) (.cells #[.int .i64 v, .int .u8 rv.toNat, .int .u8 fl.toNat] 23))); replace K := Lib.hid (nextB K.out ((Below.refl w2.heap.size w2).alloc (Nat.le_refl _) (.cells #[.int .i64 v, .int .u8 rv.toNat, .int .u8 fl.toNat] 23))); replace X := Lib.hid (block_only X.out o3 (by omega)); replace F := Lib.hid (block_only F.out o3 (by omega)); replace Y := Lib.hid (block_only Y.out o3 (by omega)); replace K := Lib.hid (onlyB K.out o3 (by omega)); clear o3; replace R := Lib.hid r3; clear r3) | (go_at_call 54; (with_reducible refine (TK.out _ _ R.out).mono ?_); rintro e w4 ⟨rfl, r4, o4⟩; replace X := Lib.hid (block_only X.out o4 (by omega)); replace F := Lib.hid (block_only F.out o4 (by omega)); replace Y := Lib.hid (block_only Y.out o4 (by omega)); replace K := Lib.hid (onlyB K.out o4 (by omega)); clear o4; replace R := Lib.hid r4; clear r4) | (go_at_call 56; (with_reducible refine (FA.out _ _ R.out).mono ?_); rintro e w5 ⟨rfl, hb5⟩; have F1 := hb5; clear F1; replace X := Lib.hid (block_below X.out (hb5)); replace F := Lib.hid (block_below F.out (hb5)); replace Y := Lib.hid (block_below Y.out (hb5)); replace R := Lib.hid (R.out.below (hb5)); replace K := Lib.hid (nextB K.out (hb5)); clear hb5; have hy5 := (Array.getElem?_eq_some_iff.1 Y.out).1) | (go_at_call 16; (with_reducible refine (BD1.out _).mono ?_); rintro e w6 ⟨rfl, hb6⟩; replace X := Lib.hid (block_below X.out (below_a1 hb6)); replace F := Lib.hid (block_below F.out (below_a1 hb6)); replace Y := Lib.hid (block_below Y.out (below_a1 hb6)); replace R := Lib.hid (R.out.below (below_a1 hb6)); replace K := Lib.hid (nextB K.out (below_a1 hb6)); clear hb6; obtain ⟨y0, y1, y2⟩ := cells3 (Y.out); have hy6 := (Array.getElem?_eq_some_iff.1 Y.out).1; have hr6 := R.out.lt) | (go_at_call 57; (with_reducible refine (WH.out _).mono ?_); rintro e w7 ⟨rfl, hb7⟩; replace X := Lib.hid (block_below X.out (hb7)); replace F := Lib.hid (block_below F.out (hb7)); replace Y := Lib.hid (block_below Y.out (hb7)); replace R := Lib.hid (R.out.below (hb7)); replace K := Lib.hid (nextB K.out (hb7)); clear hb7; have hy7 := (Array.getElem?_eq_some_iff.1 Y.out).1; have hr7 := R.out.lt) | (go_at_call 45; (with_reducible refine (DR.out _).mono ?_); rintro e w8 ⟨rfl, hb8⟩; replace X := Lib.hid (block_below X.out (hb8)); replace F := Lib.hid (block_below F.out (hb8)); replace Y := Lib.hid (block_below Y.out (hb8)); replace R := Lib.hid (R.out.below (hb8)); replace K := Lib.hid (nextB K.out (hb8)); clear hb8; have hy8 := (Array.getElem?_eq_some_iff.1 Y.out).1; have hr8 := R.out.lt) | (go_at_call 58; (with_reducible refine (IN.out _).mono ?_); rintro e w9 ⟨rfl, hr9, hb9⟩; have RI := Lib.hid hr9; replace X := Lib.hid (block_below X.out (hb9)); replace F := Lib.hid (block_below F.out (hb9)); replace Y := Lib.hid (block_below Y.out (hb9)); replace R := Lib.hid (R.out.below (hb9)); replace K := Lib.hid (nextB K.out (hb9)); clear hb9; clear hr9; obtain ⟨y0, y1, y2⟩ := cells3 (Y.out)) | (go_at_call 59; (with_reducible refine (SK.out _ _ RI.out).mono ?_); rintro e w10 ⟨rfl, r10, o10⟩; replace X := Lib.hid (block_only X.out o10 (by omega)); replace F := Lib.hid (block_only F.out o10 (by omega)); replace Y := Lib.hid (block_only Y.out o10 (by omega)); replace R := Lib.hid (R.out.only o10 (by omega)); replace K := Lib.hid (onlyB K.out o10 (by omega)); clear o10; replace RI := Lib.hid r10; clear r10; obtain ⟨y0, y1, y2⟩ := cells3 (Y.out); have hr10 := R.out.lt; have hy10 := (Array.getElem?_eq_some_iff.1 Y.out).1; have hk10 := K.out.size) | (go_at_call 60; (with_reducible refine (FR.out _ _ RI.out).mono ?_); rintro e w11 ⟨u, rfl, hv, r11, o11⟩; obtain ⟨a1, cp1, hv1, _, _⟩ := hv.at; rw [List.length_map] at hv1; subst hv1; have V := Lib.hid hv; replace X := Lib.hid (block_only X.out o11 (by omega)); replace F := Lib.hid (block_only F.out o11 (by omega)); replace Y := Lib.hid (block_only Y.out o11 (by omega)); replace R := Lib.hid (R.out.only o11 (by omega)); replace K := Lib.hid (onlyB K.out o11 (by omega)); clear o11; replace RI := Lib.hid r11; clear r11 hv) | (go_at_call 56; (with_reducible refine (FI.out _ _ RI.out).mono ?_); rintro e w12 ⟨rfl, hb12⟩; replace X := Lib.hid (block_below X.out (hb12)); replace F := Lib.hid (block_below F.out (hb12)); replace Y := Lib.hid (block_below Y.out (hb12)); replace R := Lib.hid (R.out.below (hb12)); replace V := Lib.hid (V.out.below (hb12)); replace K := Lib.hid (nextB K.out (hb12)); clear hb12; have hy12 := (Array.getElem?_eq_some_iff.1 Y.out).1) | (go_at_call 22; (with_reducible refine (FT.out _).mono ?_); rintro e w14 ⟨rfl, hb14⟩; replace X := Lib.hid (block_below X.out (hb14)); replace F := Lib.hid (block_below F.out (hb14)); replace Y := Lib.hid (block_below Y.out (hb14)); replace R := Lib.hid (R.out.below (hb14)); replace V := Lib.hid (V.out.below (hb14)); replace K := Lib.hid (nextB K.out (hb14)); clear hb14) | (go_at_call 61; (with_reducible refine (W1.out _ _ R.out).mono ?_); rintro e w15 ⟨rfl, r15, o15⟩; replace X := Lib.hid (block_only X.out o15 (by omega)); replace F := Lib.hid (block_only F.out o15 (by omega)); replace Y := Lib.hid (block_only Y.out o15 (by omega)); replace V := Lib.hid (V.out.onlyT o15 (by omega)); replace K := Lib.hid (onlyB K.out o15 (by omega)); clear o15; replace R := Lib.hid r15; clear r15) | (go_at_call 61; (with_reducible refine (W2.out _ _ R.out).mono ?_); rintro e w16 ⟨rfl, r16, o16⟩; replace X := Lib.hid (block_only X.out o16 (by omega)); replace F := Lib.hid (block_only F.out o16 (by omega)); replace Y := Lib.hid (block_only Y.out o16 (by omega)); replace V := Lib.hid (V.out.onlyT o16 (by omega)); replace K := Lib.hid (onlyB K.out o16 (by omega)); clear o16; replace R := Lib.hid r16; clear r16))
  obtain ⟨x0, x1, x2, x3⟩ := cells4 (X.out); obtain ⟨xf0, xf1, xf2, xf3⟩ := frees4 (X.out)
  obtain ⟨f0, f1⟩ := cells2 (F.out); obtain ⟨ff0, ff1⟩ := frees2 (F.out)
  clear y0 y1 y2 yf0 yf1 yf2
  replace Y : Hid ((w18.setCell ⟨w2.heap.size, 2, none⟩ (.int .u8 f2.toNat)).heap[w2.heap.size]? = some (.cells #[.int .i64 v, .int .u8 rv.toNat, .int .u8 f2.toNat] 23 (0, 0))) := Lib.hid (setCell_at (j := 2) (v := .int .u8 f2.toNat) Y.out)
  replace X := Lib.hid ((heap_set_other (b := w.heap.size) (c := w2.heap.size) (j := 2) (.int .u8 f2.toNat) (by omega)).trans X.out)
  replace F := Lib.hid ((heap_set_other (b := w.heap.size + 1) (c := w2.heap.size) (j := 2) (.int .u8 f2.toNat) (by omega)).trans F.out)
  replace R := Lib.hid (R.out.only (Only.set (b := w2.heap.size) (j := 2) (.int .u8 f2.toNat)) (by omega))
  replace V := Lib.hid (V.out.onlyT (Only.set (b := w2.heap.size) (j := 2) (.int .u8 f2.toNat)) (by omega))
  replace K := Lib.hid (Below.setCell (p := ⟨w2.heap.size, 2, none⟩) K.out (by show w.heap.size ≤ w2.heap.size; omega) (.int .u8 f2.toNat))
  generalize w18.setCell ⟨w2.heap.size, 2, none⟩ (.int .u8 f2.toNat) = v0 at *
  clear x0 x1 x2 x3 xf0 xf1 xf2 xf3 f0 f1 ff0 ff1 e64
  have cc : v0.cell? ⟨w2.heap.size, 0, none⟩ = some (.int .i64 v) ∧ v0.cell? ⟨w2.heap.size, 1, none⟩ = some (.int .u8 rv.toNat) ∧ v0.cell? ⟨w2.heap.size, 2, none⟩ = some (.int .u8 f2.toNat) := ⟨cell_at (j := 0) (Y.out), cell_at (j := 1) (Y.out), cell_at (j := 2) (Y.out)⟩
  have n1 : w.heap.size ≠ w.heap.size + 1 := by omega
  have n2 : w2.heap.size ≠ w.heap.size := by omega
  have n3 : w2.heap.size ≠ w.heap.size + 1 := by omega
  clear g3 g4 t1 t2
  have ccd : (World.drew v0).cell? ⟨w2.heap.size, 0, none⟩ = some (.int .i64 v) ∧ (World.drew v0).cell? ⟨w2.heap.size, 1, none⟩ = some (.int .u8 rv.toNat) ∧ (World.drew v0).cell? ⟨w2.heap.size, 2, none⟩ = some (.int .u8 f2.toNat) := cc
  go_region_held3 (fun w' => w'.cell? ⟨w2.heap.size, 0, none⟩ = some (.int .i64 v) ∧ w'.cell? ⟨w2.heap.size, 1, none⟩ = some (.int .u8 rv.toNat) ∧ w'.cell? ⟨w2.heap.size, 2, none⟩ = some (.int .u8 f2.toNat)) (first | with_reducible exact ccd | with_reducible exact x19 | with_reducible exact keepS n2 (keepS n2 (keepS n2 (keepS n2 x19))) | with_reducible exact keepS n3 (keepS n3 (keepS n2 (keepS n2 (keepS n2 (keepS n2 x19))))) | fail)
    (first | (go_at_call 62; (with_reducible refine (RS.out _ (World.drew v0) R.out.drew).mono ?_); rintro e w19 ⟨rfl, r19, o19⟩; have o20 := fr_drewO o19; have x19 : w19.cell? ⟨w2.heap.size, 0, none⟩ = some (.int .i64 v) ∧ w19.cell? ⟨w2.heap.size, 1, none⟩ = some (.int .u8 rv.toNat) ∧ w19.cell? ⟨w2.heap.size, 2, none⟩ = some (.int .u8 f2.toNat) := ⟨cell_at (j := 0) (block_only Y.out o20 (by omega)), cell_at (j := 1) (block_only Y.out o20 (by omega)), cell_at (j := 2) (block_only Y.out o20 (by omega))⟩; replace X := Lib.hid (block_only X.out o20 (by omega)); replace F := Lib.hid (block_only F.out o20 (by omega)); replace V := Lib.hid (V.out.onlyT o20 (by omega)); replace K := Lib.hid (onlyB K.out o20 (by omega)); obtain ⟨x0, x1, x2, x3⟩ := cells4 (X.out); obtain ⟨xf0, xf1, xf2, xf3⟩ := frees4 (X.out); obtain ⟨f0, f1⟩ := cells2 (F.out); obtain ⟨ff0, ff1⟩ := frees2 (F.out); clear r19 o19 o20))
  go_wp2
  have hc := two_cells (a0 := .int .i64 v) (a1 := .int .u8 rv.toNat) (a2 := .int .u8 f2.toNat) (a3 := .slice a1 fs.length cp1) (d0 := .int .i64 0) (d1 := .int .i64 0) X.out F.out rfl rfl n1
  refine end_ctc rfl rfl rfl hc.1 Try.underlying26 rfl (by kernel_rfl) rfl hc.2 Try.underlying31 rfl (by kernel_rfl) ⟨_, rfl, ?_, two_below K.out (Nat.le_refl _) (by omega) _ _ _ _ _ _⟩
  exact ((((((V.out.onlyT (Only.set _) (by omega)).onlyT (Only.set _) (by omega)).onlyT (Only.set _) (by omega)).onlyT (Only.set _) (by omega)).onlyT (Only.set _) (by omega)).onlyT (Only.set _) (by omega)).base (by omega)
end Go.Proofs.Ytmnmonmbdgedbaa
