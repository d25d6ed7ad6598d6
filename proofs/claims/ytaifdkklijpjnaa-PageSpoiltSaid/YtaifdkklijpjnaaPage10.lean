/- The walk of the statement PageSpoilt. -/
import Derived.Test.YtaifdkklijpjnaaPage8
import Derived.Test.YtaifdkklijpjnaaConv
namespace Go.Proofs.Ytaifdkklijpjnaa
open Go.RowKit
set_option linter.unusedVariables false

set_option maxHeartbeats 1000000 in
set_option maxRecDepth 100000 in
theorem run_neq_page (p q : Pg) (w : World) : (binOp .neq 27 (pgV p) (pgV q)).run Try.prog w = .ok (.bool (!pgEq p q)) w := by
  have h := run_eql_page p q w
  unfold pgV at h ⊢
  rw [run_eql_struct] at h
  rw [run_neq_struct]
  cases hr : (Op.equalIn 10000 27 (.agg (pgR p).toArray) (.agg (pgR q).toArray)).run Try.prog w with
  | ok b w1 =>
    rw [hr] at h
    simp only [Result.andThen_ok, Result.ok.injEq, Value.bool.injEq] at h ⊢
    exact ⟨by rw [h.1], h.2⟩
  | halt x w1 =>
    rw [hr] at h
    simp [Result.andThen] at h

/-- a page in which one byte is another one isn't read as it was -/
theorem spoilt_plain (p : Pg) (l : List UInt8) (hl : l.length = (printL p).length) (hne : l ≠ printL p) (m' : Rd) (h : pgParse (Rd.new l 0) = (m', p, true)) : False := by
  obtain ⟨_, _, h1, h2, h3⟩ := parse_sound _ _ _ (Nat.zero_le _) h
  have e : l = printL p ++ m'.t.drop m'.nx := h2
  have e2 := congrArg List.length e
  rw [List.length_append] at e2
  have e3 : m'.t.drop m'.nx = [] := List.eq_nil_of_length_eq_zero (by omega)
  rw [e3, List.append_nil] at e
  exact hne e

set_option maxRecDepth 100000 in
theorem pspoilt_over (p : Pg) (k : Int) (n : Int) (w : World) (h : (300 : Int) < p.la.length ∨ (1000 : Int) < p.bo.length ∨ n = 0) :
    Calls Try.prog 3 #[pgV p, .int .u16 k, .int .u8 n] w fun e w' => e = .returned (.bool true) ∧ Below w.heap.size w w' := by
  unfold pgV pgR
  by_cases h1 : (300 : Int) < p.la.length
  · go_enter Try.func3, Try.ntmps3
    go_wp2_with (go_at_call 10; refine (awake17' _).mono ?_; rintro e w1 ⟨rfl, hb1⟩)
    go_ret
    exact ⟨rfl, below_a1 hb1⟩
  · by_cases h2 : (1000 : Int) < p.bo.length
    · go_enter Try.func3, Try.ntmps3
      go_wp2_with (go_at_call 10; refine (awake17' _).mono ?_; rintro e w1 ⟨rfl, hb1⟩)
      go_ret
      exact ⟨rfl, below_a1 hb1⟩
    · obtain rfl : n = 0 := (h.resolve_left h1).resolve_left h2
      go_enter Try.func3, Try.ntmps3
      go_wp2_with (go_at_call 10; refine (awake17' _).mono ?_; rintro e w1 ⟨rfl, hb1⟩)
      go_ret
      exact ⟨rfl, below_a1 hb1⟩

set_option maxHeartbeats 1000000 in
set_option maxRecDepth 100000 in
theorem pspoilt_bad (p : Pg) (k : Int) (c : UInt8) (w : World) (h1 : ¬ (300 : Int) < p.la.length) (h2 : ¬ (1000 : Int) < p.bo.length) (hc : (((c.toNat : Nat) : Int) == 0) = false) (hck : checkC p ≠ 0) :
    Calls Try.prog 3 #[pgV p, .int .u16 k, .int .u8 c.toNat] w fun e w' => e = .returned (.bool true) ∧ Below w.heap.size w w' := by
  have PR := Lib.hid (fun w => print_bad p w (by omega) hck)
  generalize checkC p = f at *
  have BD := Lib.hid (fun w => bad_any f 0 w)
  rw [show (f != 0) = true by simpa using hck] at BD
  unfold pgV pgR at *
  clear hck
  go_enter Try.func3, Try.ntmps3
  go_wp2_with (first | (go_at_call 11; (with_reducible refine (PR.out _).mono ?_); rintro e w1 ⟨rfl, hb1⟩; have K1 := Lib.hid (below_a1 hb1); clear hb1) | (go_at_call 12; (with_reducible refine (BD.out _).mono ?_); rintro e w2 ⟨rfl, hb2⟩; have K2 := Lib.hid (nextB K1.out (below_a1 hb2)); clear hb2) | (go_at_call 10; (with_reducible refine (awake17' _).mono ?_); rintro e w3 ⟨rfl, hb3⟩; have K3 := Lib.hid (nextB K2.out hb3); clear hb3))
  go_ret
  exact ⟨rfl, K3.out⟩

set_option maxHeartbeats 2000000 in
set_option maxRecDepth 100000 in
theorem pspoilt_in (p q : Pg) (s : List UInt8) (ok : Bool) (k : Nat) (c : UInt8) (w : World) (h1 : ¬ (300 : Int) < p.la.length) (h2 : ¬ (1000 : Int) < p.bo.length) (hc : (((c.toNat : Nat) : Int) == 0) = false) (hk : k < 65536)
    (h0 : 0 < s.length) (hs9 : s.length ≤ 100000)
    (PR : Hid (∀ w, Calls Try.prog 11 #[pgV p] w fun e w' => e = .returned (.tuple #[.string ⟨s.toArray⟩, .agg #[.int .i64 0, .int .i64 0]]) ∧ Below w.heap.size w w'))
    (PP : Hid (∀ b w, RdAt w b (Rd.new (s.set (k % s.length) ((s[k % s.length]'(Nat.mod_lt _ h0)) ^^^ c)) 0) → Calls Try.prog 13 #[.pointer (some ⟨b, 0, none⟩)] w fun e w' => e = .returned (.tuple #[pgV q, .bool ok]) ∧ Only b w w'))
    (hq : ok = false ∨ (ok = true ∧ pgEq q p = false)) :
    Calls Try.prog 3 #[pgV p, .int .u16 k, .int .u8 c.toNat] w fun e w' => e = .returned (.bool true) ∧ Below w.heap.size w w' := by
  have BD := Lib.hid (fun w => bad_any 0 0 w)
  rw [show ((0 : Int) != 0) = false by rfl] at BD
  have hil : k % s.length < s.length := Nat.mod_lt _ h0
  have RD := Lib.hid (fun w => read_any (s.set (k % s.length) (s[k % s.length] ^^^ c)) w)
  have HQ := Lib.hid hq
  have HN := Lib.hid (fun w => run_neq_page q p w)
  unfold pgV pgR at *
  clear hq
  go_enter Try.func3, Try.ntmps3
  have hE : s.isEmpty = false := by cases s; simp at h0; rfl
  have hE2 : (s.isEmpty = true) = False := by rw [hE]; simp
  go_upto_region 8 with (first | (go_at_call 11; (with_reducible refine (PR.out _).mono ?_); rintro e w1 ⟨rfl, hb1⟩; have K1 := Lib.hid (below_a1 hb1); have X1 := Lib.hid (block_below (at_a0 w _ _) hb1); clear hb1) | (go_at_call 12; (with_reducible refine (BD.out _).mono ?_); rintro e w2 ⟨rfl, hb2⟩; have K2 := Lib.hid (nextB K1.out (below_a1 hb2)); have X2 := Lib.hid (block_below X1.out (below_a1 hb2)); clear hb2))
  have hcv := conv_bytes (P := Try.prog) w2 9 35 5 s Try.underlying9 Try.underlying35 Try.underlying5
  obtain ⟨hV, hVs, hVc⟩ := conv_facts w2 5 s
  have KV := Lib.hid (nextB K2.out hV)
  have XV := Lib.hid (block_below X2.out hV)
  have HVc := Lib.hid hVc
  generalize Lib.bytesWorld w2 5 ⟨s.toArray⟩ = V at *
  generalize grownCap w2 s.length 0 5 = cap at *
  have hbV : w2.heap.size < V.heap.size := by omega
  have hbw := K2.out.size
  have hxb := (Array.getElem?_eq_some_iff.1 X2.out).1
  have HBW := Lib.hid hbw
  generalize w2.heap.size = b at *
  clear hV hVs hVc K1 K2 X1 X2
  go_upto_region 9 with (fail)
  obtain ⟨c1, f1⟩ := HVc.out (k % s.length) hil
  have ex := u8_xor (s[k % s.length]) c
  have HX := Lib.hid (conv_back V b s (fun j h => (HVc.out j h).1) (k % s.length) hil (s[k % s.length] ^^^ c) 35 9 5 cap Try.underlying35 Try.underlying5 Try.underlying9 hbV)
  generalize s.set (k % s.length) (s[k % s.length] ^^^ c) = l2 at *
  generalize s[k % s.length] ^^^ c = d at *
  clear hcv HVc
  go_upto_region 10 with (fail)
  have KW := Lib.hid (KV.out.setCell (p := ⟨b, k % s.length, none⟩) HBW.out (.int .u8 (d.toNat : Int)))
  have XW := Lib.hid ((heap_set_other (.int .u8 (d.toNat : Int)) (show w.heap.size ≠ b by omega) (j := k % s.length)).trans XV.out)
  have hx := HX.out _ (Below.refl _ _)
  generalize V.setCell ⟨b, k % s.length, none⟩ (.int .u8 (d.toNat : Int)) = W at *
  clear KV XV c1 f1 ex HX hbV
  have hxw := (Array.getElem?_eq_some_iff.1 XW.out).1
  have hww := KW.out.size
  go_upto_region 11 with (first | (go_at_call 14; (with_reducible refine (RD.out _).mono ?_); rintro e w3 ⟨rfl, hr3, hb3⟩; have R3 := Lib.hid hr3; have K3 := Lib.hid (nextB KW.out hb3); have X3 := Lib.hid (block_below XW.out hb3); clear hr3 hb3) | (go_at_call 13; (with_reducible refine (PP.out _ _ R3.out).mono ?_); rintro e w4 ⟨rfl, ho4⟩; have K4 := Lib.hid (onlyB K3.out ho4 hww); have X4 := Lib.hid (block_only X3.out ho4 (by omega)); clear ho4))
  have X5 := Lib.hid (block_below X4.out ((Below.refl _ w4).alloc (Nat.le_refl _) (.cells #[.int .u8 q.fl.toNat, .int .u64 q.po, .int .u32 q.se, .int .u32 q.nu, .string ⟨q.la.toArray⟩, .string ⟨q.bo.toArray⟩] 27)))
  have Y5 := Lib.hid (at_a0 w4 #[.int .u8 q.fl.toNat, .int .u64 q.po, .int .u32 q.se, .int .u32 q.nu, .string ⟨q.la.toArray⟩, .string ⟨q.bo.toArray⟩] 27)
  have K5 := Lib.hid (K4.out.alloc K4.out.size (.cells #[.int .u8 q.fl.toNat, .int .u64 q.po, .int .u32 q.se, .int .u32 q.nu, .string ⟨q.la.toArray⟩, .string ⟨q.bo.toArray⟩] 27))
  generalize w4.alloc (.cells #[.int .u8 q.fl.toNat, .int .u64 q.po, .int .u32 q.se, .int .u32 q.nu, .string ⟨q.la.toArray⟩, .string ⟨q.bo.toArray⟩] 27) = v at *
  generalize w4.heap.size = qb at *
  clear K3 K4 X3 X4 R3 PP RD hx
  rcases HQ.out with rfl | ⟨rfl, he⟩
  · go_wp2_with (go_at_call 10; (with_reducible refine (awake17' _).mono ?_); rintro e w6 ⟨rfl, hb6⟩; have K6 := Lib.hid (nextB K5.out hb6); clear hb6)
    go_ret
    exact ⟨rfl, K6.out⟩
  · have hn := HN.out
    rw [he] at hn
    clear HQ he
    go_wp2_with (go_at_call 10; (with_reducible refine (awake17' _).mono ?_); rintro e w6 ⟨rfl, hb6⟩; have K6 := Lib.hid (nextB K5.out hb6); have X6 := Lib.hid (block_below X5.out hb6); have Y6 := Lib.hid (block_below Y5.out hb6); have x0 := cell_at (j := 0) X6.out; have x1 := cell_at (j := 1) X6.out; have x2 := cell_at (j := 2) X6.out; have x3 := cell_at (j := 3) X6.out; have x4 := cell_at (j := 4) X6.out; have x5 := cell_at (j := 5) X6.out; simp only [List.getElem?_toArray, List.getElem?_cons_zero, List.getElem?_cons_succ] at x0 x1 x2 x3 x4 x5; have y0 := cell_at (j := 0) Y6.out; have y1 := cell_at (j := 1) Y6.out; have y2 := cell_at (j := 2) Y6.out; have y3 := cell_at (j := 3) Y6.out; have y4 := cell_at (j := 4) Y6.out; have y5 := cell_at (j := 5) Y6.out; simp only [List.getElem?_toArray, List.getElem?_cons_zero, List.getElem?_cons_succ] at y0 y1 y2 y3 y4 y5; clear hb6)
    go_ret
    exact ⟨rfl, K6.out⟩

theorem walk_PageSpoilt (w : World) (v : Value) (hv : ∃ q : Pg, v = pgV q ∧ q.Ok ∧ q.la.length ≤ maxLen ∧ q.bo.length ≤ maxLen) (k : Int) (hk : (Lit.int .u16 k).wf = true) (n : Int) (hn : (Lit.int .u8 n).wf = true) :
    Calls Try.prog 3 #[v, .int .u16 k, .int .u8 n] w fun e w' => e = .returned (.bool true) ∧ Below w.heap.size w w' := by
  obtain ⟨p, rfl, hp, _, _⟩ := hv
  obtain ⟨c, rfl⟩ := wf_u8 hn
  have h2 : 0 ≤ k ∧ k < 65536 := by
    simp [Lit.wf, IntKind.bits, IntKind.signed, IntKind.min, IntKind.max] at hk
    omega
  obtain ⟨j, rfl⟩ : ∃ j : Nat, k = j := ⟨k.toNat, by omega⟩
  by_cases h1 : (300 : Int) < p.la.length
  · exact pspoilt_over p _ _ w (.inl h1)
  by_cases h3 : (1000 : Int) < p.bo.length
  · exact pspoilt_over p _ _ w (.inr (.inl h3))
  by_cases hc : ((c.toNat : Nat) : Int) = 0
  · exact pspoilt_over p _ _ w (.inr (.inr hc))
  have hc' : (((c.toNat : Nat) : Int) == 0) = false := by simpa using hc
  by_cases hck : checkC p = 0
  · have hlen := print_len p
    have h0 : 0 < (printL p).length := by omega
    have hil : j % (printL p).length < (printL p).length := Nat.mod_lt _ h0
    generalize hl2 : (printL p).set (j % (printL p).length) ((printL p)[j % (printL p).length] ^^^ c) = l2
    have hll : l2.length = (printL p).length := by rw [← hl2, List.length_set]
    have hne : l2 ≠ printL p := by
      intro e
      have e2 : l2[j % (printL p).length]? = some ((printL p)[j % (printL p).length] ^^^ c) := by rw [← hl2]; simp [hil]
      rw [e, List.getElem?_eq_getElem hil, Option.some.injEq] at e2
      have e3 := congrArg (fun x => (printL p)[j % (printL p).length] ^^^ x) e2
      simp only [← UInt8.xor_assoc, UInt8.xor_self, UInt8.zero_xor] at e3
      rw [← e3] at hc
      exact hc rfl
    refine pspoilt_in p (pgParse (Rd.new l2 0)).2.1 (printL p) (pgParse (Rd.new l2 0)).2.2 j c w h1 h3 hc' (by omega) h0 (by omega) (Lib.hid fun w => print_ok p w hp (by omega) (by omega) hck) (Lib.hid fun b w h => ?_) ?_
    · rw [hl2] at h
      exact (parse_any b _ w h (new_ok _ 0 (by omega) (by decide))).mono fun e w' ⟨h2, _, h3⟩ => ⟨h2, h3⟩
    · rcases hb : (pgParse (Rd.new l2 0)).2.2 with _ | _
      · exact .inl rfl
      · refine .inr ⟨rfl, pgEq_no fun e => ?_⟩
        exact spoilt_plain p l2 hll hne (pgParse (Rd.new l2 0)).1 (by rw [← e, ← hb])
  · exact pspoilt_bad p _ c w h1 h3 hc' hck
end Go.Proofs.Ytaifdkklijpjnaa
