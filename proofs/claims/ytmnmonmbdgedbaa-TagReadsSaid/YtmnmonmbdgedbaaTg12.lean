/- Layer 15 (tag): the document's example; Light. -/
import Derived.Test.YtmnmonmbdgedbaaTg11
namespace Go.Proofs.Ytmnmonmbdgedbaa
open Go.RowKit
set_option linter.unusedVariables false
set_option linter.unusedSimpArgs false

def f15 : Fr := ⟨[84, 73, 84, 50], 0, 0, 0, [97], 0⟩
def t15 : Tg := ⟨3, 0, 0, [f15]⟩
def u15 : Tg := ⟨3, 0, 0, [{ f15 with pl := 10 }]⟩
def l15 : List UInt8 := [73, 68, 51, 3, 0, 0, 0, 0, 0, 11, 84, 73, 84, 50, 0, 0, 0, 1, 0, 0, 97]
theorem check15 : checkT t15 = (0, 0) := by decide
theorem check15u : checkT u15 = (0, 0) := by decide
theorem print15 : printT t15 = l15 := by decide
theorem print15u : printT u15 = l15 := by decide
theorem parse15 : prT (l15 ++ [120]) = (u15, [120], 0, 0) := by
  have h := prT_print t15 [120] (by rw [check15]) (by decide) (by decide)
  rw [print15] at h
  exact h
set_option maxRecDepth 100000 in
theorem p15_1 (w : World) : Calls Try.prog 17 #[.string ⟨(l15 ++ [120]).toArray⟩] w (TParse u15 [120] 0 0 w) := by
  have h := tparse_any (l15 ++ [120]) w (by decide)
  rw [parse15] at h
  exact h
set_option maxRecDepth 100000 in
theorem p15_2 (w : World) : Calls Try.prog 17 #[.string ⟨#[73, 68, 51, 3, 0, 0, 0, 0, 0, 11, 84, 73, 84, 50, 0, 0, 0, 1, 0, 0, 97, 120]⟩] w (TParse u15 [120] 0 0 w) := p15_1 w
set_option maxRecDepth 100000 in
theorem p15_3 (w w' : World) (e : Ending) (h : TParse u15 [120] 0 0 w e w') : ∃ b o cp1, e = .returned (.tuple #[.agg #[.int .i64 3, .int .u8 0, .int .u8 0, .slice (some ⟨b, o, none⟩) 1 cp1], .string ⟨#[120]⟩, .agg #[.int .i64 0, .int .i64 0]]) ∧ RecsAt w' (some ⟨b, o, none⟩) 1 6 [frR { f15 with pl := 10 }] ∧ Below w.heap.size w w' := by
  obtain ⟨u, rfl, hr, hb⟩ := h
  obtain ⟨a, cp, rfl, _, hat⟩ := hr.at
  obtain ⟨b, o, rfl, _⟩ := frs_cells (L := u15.fs) hat 0 (by decide)
  refine ⟨b, o, cp, rfl, ?_, hb⟩
  exact hat
set_option maxRecDepth 100000 in
theorem pr15 (b o cp1 : Nat) (w : World) (h : RecsAt w (some ⟨b, o, none⟩) 1 6 [frR { f15 with pl := 10 }]) : Calls Try.prog 15 #[.agg #[.int .i64 u15.v, .int .u8 u15.rv.toNat, .int .u8 u15.fl.toNat, .slice (some ⟨b, o, none⟩) 1 cp1]] w (TPrints l15 (0, 0) w) := by
  have k := tprint_any u15 (some ⟨b, o, none⟩) 1 cp1 w h (by decide) (by decide) (fun _ => by decide)
  rw [check15u, if_pos rfl, print15u] at k
  exact k
set_option maxRecDepth 100000 in
theorem pr15_2 (b o cp1 : Nat) (w : World) (h : RecsAt w (some ⟨b, o, none⟩) 1 6 [frR { f15 with pl := 10 }]) : Calls Try.prog 15 #[.agg #[.int .i64 3, .int .u8 0, .int .u8 0, .slice (some ⟨b, o, none⟩) 1 cp1]] w fun e w' => e = .returned (.tuple #[.string ⟨#[73, 68, 51, 3, 0, 0, 0, 0, 0, 11, 84, 73, 84, 50, 0, 0, 0, 1, 0, 0, 97]⟩, .agg #[.int .i64 0, .int .i64 0]]) ∧ Below w.heap.size w w' := pr15 b o cp1 w h
set_option maxHeartbeats 1000000 in
set_option maxRecDepth 100000 in
theorem awake15 (w : World) : Calls Try.prog 13 #[] w fun e w' => e = .returned (.bool true) ∧ Below w.heap.size w w' := by
  have PA : Hid (∀ w, Calls Try.prog 17 #[.string ⟨#[73, 68, 51, 3, 0, 0, 0, 0, 0, 11, 84, 73, 84, 50, 0, 0, 0, 1, 0, 0, 97, 120]⟩] w fun e w' => ∃ b o cp1, e = .returned (.tuple #[.agg #[.int .i64 3, .int .u8 0, .int .u8 0, .slice (some ⟨b, o, none⟩) 1 cp1], .string ⟨#[120]⟩, .agg #[.int .i64 0, .int .i64 0]]) ∧ RecsAt w' (some ⟨b, o, none⟩) 1 6 [frR { f15 with pl := 10 }] ∧ Below w.heap.size w w') :=
    Lib.hid fun w => (p15_2 w).mono fun e w' h => p15_3 w w' e h
  have PR : Hid (∀ b o cp1 w, RecsAt w (some ⟨b, o, none⟩) 1 6 [frR { f15 with pl := 10 }] → Calls Try.prog 15 #[.agg #[.int .i64 3, .int .u8 0, .int .u8 0, .slice (some ⟨b, o, none⟩) 1 cp1]] w fun e w' => e = .returned (.tuple #[.string ⟨#[73, 68, 51, 3, 0, 0, 0, 0, 0, 11, 84, 73, 84, 50, 0, 0, 0, 1, 0, 0, 97]⟩, .agg #[.int .i64 0, .int .i64 0]]) ∧ Below w.heap.size w w') :=
    Lib.hid fun b o cp1 w h => pr15_2 b o cp1 w h
  have BD := Lib.hid (fun w => bad_any 0 0 w)
  rw [show ((0 : Int) != 0) = false by rfl] at BD
  go_enter Try.func13, Try.ntmps13
  go_upto_region 2 with (go_at_call 17; (with_reducible refine (PA.out _).mono ?_); rintro e w1 ⟨b, o, cp1, rfl, hv, hb1⟩; have V := Lib.hid hv; have K := Lib.hid hb1; clear hv hb1)
  have X := Lib.hid (at_a1 w1 #[.int .i64 3, .int .u8 0, .int .u8 0, .slice (some ⟨b, o, none⟩) 1 cp1] 26 (.cells #[.int .i64 0, .int .i64 0] 31))
  have F := Lib.hid (at_a2 w1 #[.int .i64 0, .int .i64 0] 31 (.cells #[.int .i64 3, .int .u8 0, .int .u8 0, .slice (some ⟨b, o, none⟩) 1 cp1] 26))
  replace V := Lib.hid (V.out.below (((Below.refl w1.heap.size w1).alloc (Nat.le_refl _) (.cells #[.int .i64 3, .int .u8 0, .int .u8 0, .slice (some ⟨b, o, none⟩) 1 cp1] 26)).alloc (by simp) (.cells #[.int .i64 0, .int .i64 0] 31)))
  replace K := Lib.hid (nextB K.out (((Below.refl w1.heap.size w1).alloc (Nat.le_refl _) (.cells #[.int .i64 3, .int .u8 0, .int .u8 0, .slice (some ⟨b, o, none⟩) 1 cp1] 26)).alloc (by simp) (.cells #[.int .i64 0, .int .i64 0] 31)))
  have hx := (Array.getElem?_eq_some_iff.1 X.out).1
  have hf := (Array.getElem?_eq_some_iff.1 F.out).1
  generalize (w1.alloc (.cells #[.int .i64 3, .int .u8 0, .int .u8 0, .slice (some ⟨b, o, none⟩) 1 cp1] 26)).alloc (.cells #[.int .i64 0, .int .i64 0] 31) = v1 at *
  obtain ⟨x0, x1, x2, x3⟩ := cells4 (X.out)
  go_wp2_with (first | (go_at_call 15; (with_reducible refine (PR.out _ _ _ _ V.out).mono ?_); rintro e w2 ⟨rfl, hb2⟩; replace X := Lib.hid (block_below X.out (hb2)); replace F := Lib.hid (block_below F.out (hb2)); replace V := Lib.hid (V.out.below (hb2)); replace K := Lib.hid (nextB K.out (hb2)); clear hb2; have hx2 := (Array.getElem?_eq_some_iff.1 X.out).1; have hf2 := (Array.getElem?_eq_some_iff.1 F.out).1) | (go_at_call 47; (with_reducible refine (awake13 _).mono ?_); rintro e w3 ⟨rfl, hb3⟩; have G := Lib.hid (block_below (at_a0 w2 #[.int .i64 0, .int .i64 0] 31) hb3); replace X := Lib.hid (block_below X.out (below_a1 hb3)); replace F := Lib.hid (block_below F.out (below_a1 hb3)); replace V := Lib.hid (V.out.below (below_a1 hb3)); replace K := Lib.hid (nextB K.out (below_a1 hb3)); clear hb3; obtain ⟨y0, y1, y2, y3⟩ := cells4 (X.out); obtain ⟨f0, f1⟩ := cells2 (F.out); obtain ⟨_, _, hbo, hblt, _, _, _, _, c4, _⟩ := frs_cells (L := u15.fs) V.out 0 (by decide); simp only [Option.some.injEq, Addr.mk.injEq, and_true] at hbo; obtain ⟨rfl, rfl⟩ := hbo; have d4 : w3.cell? ⟨b, o + 4, none⟩ = some (.string ⟨#[97]⟩) := c4; clear c4) | (go_at_call 16; have _chk := f0; (with_reducible refine (BD.out _).mono ?_); rintro e w4 ⟨rfl, hb4⟩; clear f0 f1; replace G := Lib.hid (block_below G.out (hb4)); replace K := Lib.hid (nextB K.out (hb4)); clear hb4; obtain ⟨g0, g1⟩ := cells2 (G.out)) | (go_at_call 16; (with_reducible refine (BD.out _).mono ?_); rintro e w5 ⟨rfl, hb5⟩; replace K := Lib.hid (nextB K.out (hb5)); clear hb5))
  go_ret
  exact ⟨rfl, K.out⟩
set_option maxRecDepth 100000 in
theorem awake15' (w : World) : Calls Try.prog 21 #[] w fun e w' => e = .returned (.bool true) ∧ Below w.heap.size w w' := by
  go_enter Try.func21, Try.ntmps21
  go_wp2_with (go_at_call 13; refine (awake15 _).mono ?_; rintro e w1 ⟨rfl, hb1⟩)
  go_ret
  exact ⟨rfl, hb1⟩
end Go.Proofs.Ytmnmonmbdgedbaa
