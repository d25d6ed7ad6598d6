/- Layer 12 (tail): the statements' example. -/
import Derived.Test.YtlgkbkbghheokaaTail8
namespace Go.Proofs.Ytlgkbkbghheokaa
open Go.RowKit
set_option linter.unusedVariables false

def awT : Tl := ⟨[97], [], [], [], [], 5, 17⟩
theorem awT_fits : Fits awT := by
  intro x hx
  simp only [pairs, awT, List.mem_cons, List.not_mem_nil, or_false] at hx
  rcases hx with rfl | rfl | rfl | rfl | rfl <;> simp
theorem tcheck_fits (t : Tl) (h : Fits t) : tcheck t = (0, 0) := by
  have key : ∀ (l : List (List UInt8 × Nat)) (i : Nat), (∀ x ∈ l, x.1.contains 0 = false ∧ x.1.length ≤ x.2) → tckL l i = (0, 0) := by
    intro l
    induction l with
    | nil => intro i _; rfl
    | cons x l ih =>
      intro i hx
      obtain ⟨s, r⟩ := x
      have h1 := hx (s, r) List.mem_cons_self
      simp only at h1
      rw [tckL, h1.1, if_neg (by decide), if_neg (by omega)]
      exact ih (i + 1) fun y hy => hx y (List.mem_cons_of_mem _ hy)
  exact key _ 0 h
theorem parsed_back (t : Tl) (h : Fits t) : parsed (printT t) = t := by
  unfold parsed
  rw [(tail_back t h).2, if_pos rfl]
  exact (tail_back t h).1
set_option maxHeartbeats 4000000 in
set_option maxRecDepth 100000 in
theorem awake12 (w : World) : Calls Try.prog 43 #[] w fun e w' => e = .returned (.bool true) ∧ Below w.heap.size w w' := by
  have PR : Hid (∀ w, Calls Try.prog 12 #[.agg #[.string ⟨#[97]⟩, .string ⟨#[]⟩, .string ⟨#[]⟩, .string ⟨#[]⟩, .string ⟨#[]⟩, .int .u8 5, .int .u8 17]] w fun e w' => e = .returned (.tuple #[.string ⟨(printT awT).toArray⟩, .agg #[.int .i64 0, .int .i64 0]]) ∧ Below w.heap.size w w') :=
    Lib.hid fun w => tprint_ok awT w (tcheck_fits _ awT_fits)
  have PP : Hid (∀ w, Calls Try.prog 15 #[.string ⟨(printT awT).toArray⟩] w fun e w' => e = .returned (.tuple #[.agg #[.string ⟨#[97]⟩, .string ⟨#[]⟩, .string ⟨#[]⟩, .string ⟨#[]⟩, .string ⟨#[]⟩, .int .u8 5, .int .u8 17], .bool true]) ∧ Below w.heap.size w w') :=
    Lib.hid fun w => by
      have h := tparse_any (printT awT) w
      rw [parsed_back _ awT_fits, (tail_back _ awT_fits).2] at h
      exact h
  have BD := Lib.hid (fun w => bad_any 0 0 w)
  rw [show ((0 : Int) != 0) = false by rfl] at BD
  have hlen : (printT awT).length = 128 := printT_len awT (fun x hx => (awT_fits x hx).2)
  have t1 : (((printT awT).length : Int) == 128) = true := by rw [hlen]; rfl
  have h4 : (printT awT).take 4 = [84, 65, 71, 97] := by decide +kernel
  have h126g : (printT awT).getD 126 0 = 5 := by decide +kernel
  have g1 : 126 < (printT awT).length := by omega
  have g2 : (126 : Int) < (printT awT).length := by omega
  have g3 : (4 : Int) ≤ (printT awT).length := by omega
  have g4 : 4 ≤ (printT awT).length := by omega
  generalize printT awT = s at *
  have h126 : s[126]'g1 = 5 := by
    rw [← h126g]
    simp [List.getD_eq_getElem?_getD, g1]
  clear h126g hlen
  go_enter Try.func43, Try.ntmps43
  go_wp2_with (first | (go_at_call 12; (with_reducible refine (PR.out _).mono ?_); rintro e w1 ⟨rfl, hb1⟩; have T1 := Lib.hid (block_below (at_a0 w _ _) hb1); have K1 := Lib.hid (below_a1 hb1); clear hb1) | (go_at_call 15; (with_reducible refine (PP.out _).mono ?_); rintro e w2 ⟨rfl, hb2⟩; have T2 := Lib.hid (block_below T1.out (below_a1 hb2)); have F2 := Lib.hid (block_below (at_a0 w1 _ _) hb2); have K2 := Lib.hid (nextB K1.out (below_a1 hb2)); clear hb2) | (go_at_call 73; (with_reducible refine (awake01 _).mono ?_); rintro e w3 ⟨rfl, hb3⟩; have T3 := Lib.hid (block_below T2.out (below_a1 hb3)); have F3 := Lib.hid (block_below F2.out (below_a1 hb3)); have U3 := Lib.hid (block_below (at_a0 w2 _ _) hb3); have K3 := Lib.hid (nextB K2.out (below_a1 hb3)); have f0 := cell_at (j := 0) F3.out; have f1 := cell_at (j := 1) F3.out; simp only [List.getElem?_toArray, List.getElem?_cons_zero, List.getElem?_cons_succ] at f0 f1; clear hb3) | (go_at_call 19; (with_reducible refine (BD.out _).mono ?_); rintro e w4 ⟨rfl, hb4⟩; have T4 := Lib.hid (block_below T3.out hb4); have U4 := Lib.hid (block_below U3.out hb4); have K4 := Lib.hid (nextB K3.out hb4); have t0 := cell_at (j := 0) T4.out; have t1 := cell_at (j := 1) T4.out; have t2 := cell_at (j := 2) T4.out; have t3 := cell_at (j := 3) T4.out; have t4 := cell_at (j := 4) T4.out; have t5 := cell_at (j := 5) T4.out; have t6 := cell_at (j := 6) T4.out; simp only [List.getElem?_toArray, List.getElem?_cons_zero, List.getElem?_cons_succ] at t0 t1 t2 t3 t4 t5 t6; have u0 := cell_at (j := 0) U4.out; have u1 := cell_at (j := 1) U4.out; have u2 := cell_at (j := 2) U4.out; have u3 := cell_at (j := 3) U4.out; have u4 := cell_at (j := 4) U4.out; have u5 := cell_at (j := 5) U4.out; have u6 := cell_at (j := 6) U4.out; simp only [List.getElem?_toArray, List.getElem?_cons_zero, List.getElem?_cons_succ] at u0 u1 u2 u3 u4 u5 u6; clear hb4))
  go_ret
  exact ⟨rfl, K4.out⟩
set_option maxRecDepth 100000 in
theorem awake12' (w : World) : Calls Try.prog 11 #[] w fun e w' => e = .returned (.bool true) ∧ Below w.heap.size w w' := by
  go_enter Try.func11, Try.ntmps11
  go_wp2_with (go_at_call 43; refine (awake12 _).mono ?_; rintro e w1 ⟨rfl, hb1⟩)
  go_ret
  exact ⟨rfl, hb1⟩
end Go.Proofs.Ytlgkbkbghheokaa
