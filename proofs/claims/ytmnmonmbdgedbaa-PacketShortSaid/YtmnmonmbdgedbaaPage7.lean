/- Layer 17 (page): a page's bytes as the document has them, walked. -/
import Derived.Test.YtmnmonmbdgedbaaPage6
namespace Go.Proofs.Ytmnmonmbdgedbaa
open Go.RowKit
set_option linter.unusedVariables false

theorem add_run (x y : List UInt8) (h : x.length + y.length ≤ 8388608) : ∃ z, z = x ++ y ∧ ∀ w : World, (Op.stringOp .add ⟨x.toArray⟩ ⟨y.toArray⟩).run Try.prog w = .ok (.string ⟨z.toArray⟩) w :=
  ⟨_, rfl, fun w => run_string_add_lists w x y (by omega) (by omega)⟩

theorem zero_ok : zeroP.Ok := ⟨by decide, by decide, by decide⟩
theorem zero_check : checkC zeroP = 0 := check_of (by decide) rfl
/-- a text that is one page, read -/
theorem parse_text (p : Pg) (hp : p.Ok) (hc : checkC p = 0) : pgParse (Rd.new (printL p) 0) = (adv (Rd.new (printL p) 0) (printL p).length, p, true) :=
  parse_run _ p [] hp hc (by rw [List.append_nil]; exact Run.new _ _)

set_option maxHeartbeats 4000000 in
set_option maxRecDepth 100000 in
theorem awake17 (w : World) : Calls Try.prog 114 #[] w fun e w' => e = .returned (.bool true) ∧ Below w.heap.size w w' := by
  have PR : Hid (∀ w, Calls Try.prog 134 #[.agg #[.int .u8 0, .int .u64 0, .int .u32 0, .int .u32 0, .string ⟨#[]⟩, .string ⟨#[]⟩]] w fun e w' => e = .returned (.tuple #[.string ⟨(printL zeroP).toArray⟩, .agg #[.int .i64 0, .int .i64 0]]) ∧ Below w.heap.size w w') :=
    Lib.hid fun w => print_ok zeroP w zero_ok (by decide) (by decide) zero_check
  have RD := Lib.hid (fun w => read_any (printL zeroP) w)
  have hlen := print_len zeroP
  have hlen2 : (printL zeroP).length = 27 := hlen
  have PP : Hid (∀ b w, RdAt w b (Rd.new (printL zeroP) 0) → Calls Try.prog 135 #[.pointer (some ⟨b, 0, none⟩)] w fun e w' => e = .returned (.tuple #[.agg #[.int .u8 0, .int .u64 0, .int .u32 0, .int .u32 0, .string ⟨#[]⟩, .string ⟨#[]⟩], .bool true]) ∧ Only b w w') :=
    Lib.hid fun b w h => by
      have h1 := parse_any b _ w h (new_ok _ 0 (by rw [hlen2]; decide) (by decide))
      rw [parse_text zeroP zero_ok zero_check] at h1
      exact h1.mono fun e w' ⟨h2, _, h3⟩ => ⟨h2, h3⟩
  have OP : Hid (∀ w, Calls Try.prog 86 #[.agg #[.int .u8 0, .int .u64 0, .int .u32 0, .int .u32 0, .string ⟨#[3, 255]⟩, .string ⟨#[]⟩]] w fun e w' => e = .returned (.bool true) ∧ Below w.heap.size w w') :=
    Lib.hid fun w => open_any ⟨0, 0, 0, 0, [3, 255], []⟩ w (by decide)
  have BD := Lib.hid (fun w => bad_any 0 0 w)
  rw [show ((0 : Int) != 0) = false by rfl] at BD
  have t1 : (((printL zeroP).length : Int) == 27) = true := by rw [hlen2]; rfl
  have t2 : (printL zeroP).length ≤ 27 := by omega
  clear hlen hlen2
  generalize printL zeroP = s at *
  go_enter Try.func114, Try.ntmps114
  go_wp2_with (first | (go_at_call 134; (with_reducible refine (PR.out _).mono ?_); rintro e w1 ⟨rfl, hb1⟩; have K1 := Lib.hid hb1; clear hb1) | (go_at_call 52; (with_reducible refine (RD.out _).mono ?_); rintro e w2 ⟨rfl, hr2, hb2⟩; have R2 : Hid (RdAt w2 (w1.heap.size + 1) (Rd.new s 0)) := Lib.hid (by simpa using hr2); have F2 := Lib.hid (block_below (at_a0 w1 _ _) hb2); have K2 := Lib.hid (nextB K1.out (below_a1 hb2)); clear hr2 hb2) | (go_at_call 135; (with_reducible refine (PP.out _ _ R2.out).mono ?_); rintro e w3 ⟨rfl, ho3⟩; have F3 := Lib.hid (block_only F2.out ho3 (by omega)); have K3 := Lib.hid (onlyB K2.out ho3 (by have := K1.out.size; omega)); clear ho3) | (go_at_call 136; (with_reducible refine (awake16 _).mono ?_); rintro e w4 ⟨rfl, hb4⟩; have K4 := Lib.hid (nextB K3.out (below_a1 hb4)); have F4 := block_below (block_below F3.out ((Below.refl _ _).alloc (Nat.le_refl _) _)) hb4; have G4 := Lib.hid (block_below (at_a0 w3 _ _) hb4); have c0 := cell_at (j := 0) F4; have c1 := cell_at (j := 1) F4; simp only [List.getElem?_toArray, List.getElem?_cons_zero, List.getElem?_cons_succ] at c0 c1; clear hb4 F4) | (go_at_call 16; (with_reducible refine (BD.out _).mono ?_); rintro e w5 ⟨rfl, hb5⟩; have K5 := Lib.hid (nextB K4.out hb5); have G5 := block_below G4.out hb5; have d0 := cell_at (j := 0) G5; have d1 := cell_at (j := 1) G5; have d2 := cell_at (j := 2) G5; have d3 := cell_at (j := 3) G5; have d4 := cell_at (j := 4) G5; have d5 := cell_at (j := 5) G5; simp only [List.getElem?_toArray, List.getElem?_cons_zero, List.getElem?_cons_succ] at d0 d1 d2 d3 d4 d5; clear hb5 G5) | (go_at_call 86; (with_reducible refine (OP.out _).mono ?_); rintro e w6 ⟨rfl, hb6⟩; have K6 := Lib.hid hb6; clear hb6))
  go_ret
  exact ⟨rfl, nextB K5.out K6.out⟩
end Go.Proofs.Ytmnmonmbdgedbaa
