/- Layer 12 (tail): Print, walked. -/
import Derived.Test.YtlgkbkbghheokaaTail2
namespace Go.Proofs.Ytlgkbkbghheokaa
open Go.RowKit
set_option linter.unusedVariables false

def strR (s : List UInt8) : List Value := [.string ⟨s.toArray⟩]
theorem info_str1 : (Try.prog.info? 9).map (fun i => (i.zero, i.size, i.bytes)) = some (some (.string ⟨#[]⟩), 1, 16) := by kernel_rfl
theorem one_strR (x : List UInt8) : ∀ u ∈ strR x, u.oneCell' = true := by
  intro u hu
  simp only [strR, List.mem_cons, List.not_mem_nil, or_false] at hu
  rw [hu]; rfl
theorem strs_at {w : World} {base e : Nat} {v : Value} {ps : List (List UInt8)} (h : Recs w base e 1 v (ps.map strR)) : ∃ a cap, v = .slice a ps.length cap ∧ ps.length ≤ cap ∧ StrsAt w a ps.length ps := by
  obtain ⟨a, cap, hv, hc, hr⟩ := h.at
  rw [List.length_map] at hv hr hc
  refine ⟨a, cap, hv, hc, rfl, ?_⟩
  rcases hr.2.2 with h0 | ⟨b, off, ha, hb, hc⟩
  · exact .inl h0
  · refine .inr ⟨b, off, ha, hb, fun i hi => ?_⟩
    have := hc i (by simpa using hi) 0 (by decide)
    simp only [Nat.mul_one, Nat.add_zero] at this
    rw [this]
    simp [strR]
/-- a slice of one text that the call writes out -/
theorem Recs.lit (w : World) (base e : Nat) (u : Value) (hb : base ≤ w.heap.size) : Recs (w.alloc (.cells #[u] e)) base e 1 (.slice (some ⟨w.heap.size, 0, none⟩) 1 1) [[u]] :=
  ⟨by intro r hr; obtain rfl : r = [u] := by simpa using hr
      rfl, rfl, .inr ⟨_, 1, #[u], rfl, hb, at_a0 _ _ _, Nat.le_refl _, by decide, rfl, rfl⟩⟩
theorem block_grown {w w' : World} {b base : Nat} {o : Obj} {v : Value} (h : w.heap[b]? = some o) (hg : w.grownBy w' v.ownBlock) (hv : ∀ k, v.ownBlock = some k → base ≤ k) (hb : b < base) : w'.heap[b]? = some o :=
  (hg.block b (Array.getElem?_eq_some_iff.1 h).1 (fun e => by have := hv b e.symm; omega)).trans h
theorem grown_belowR {R : Nat} {w wr w' : World} {v : Value} (hB : Below R w wr) (hg : wr.grownBy w' v.ownBlock) (hv : ∀ k, v.ownBlock = some k → R ≤ k) (hR : R ≤ wr.heap.size) : Below R w w' := by
  refine ⟨hg.os.trans hB.os, hg.tape.trans hB.tape, hg.output.trans hB.output, Nat.le_trans hB.size hg.size, fun k hk => ?_⟩
  refine (hg.block k (Nat.lt_of_lt_of_le hk hR) ?_).trans (hB.block k hk)
  intro e
  have := hv k e.symm
  omega
/-- 'l = append(l, a, b)' -/
theorem wpList_push2 {P : Program} (wr : World) {ops : Array Oper} {rest : List Oper} {o : Oper} {a : Act} {Q : Exit → Act → World → Prop} (hgd : o.guard = none) (s x : Operand) (t : TypeId)
    (ho : o.op = .call { callee := .builtin .append, args := #[s, x], argTypes := #[t, t] })
    (base e bytes : Nat) (z : Value) (ht : P.underlying t = some (.slice e)) (hinfo : (P.info? e).map (fun i => (i.zero, i.size, i.bytes)) = some (some z, 1, bytes)) (hzs : z.cells.size = 1) (hby : bytes ≤ 1000)
    (v : Value) (L : List (List Value)) (u0 u1 : Value) (h1 : u0.oneCell' = true) (h2 : u1.oneCell' = true) (hs : a.eval s = v) (hbuf : Recs wr base e 1 v L) (hx : a.eval x = .slice (some ⟨wr.heap.size, 0, none⟩) 2 2)
    (hlen : L.length ≤ 1000000000) (hbase : base ≤ wr.heap.size) (E : TypeId)
    (h : ∀ v' w', Recs w' base e 1 v' (L ++ [[u0], [u1]]) → wr.grownBy w' v.ownBlock → wpList P ops Q rest (a.put o.dst v') w') :
    wpList P ops Q (o :: rest) a (wr.alloc (.cells #[u0, u1] E)) := by
  obtain ⟨i, hi, hz0, hz1, hz2⟩ := info_parts hinfo
  refine wpList_append_own _ hgd s x t ho base e i z 1 bytes ht hi hz0 hz1 hz2 hzs (by decide) v L.length L.flatten hs (World.ownsRow.alloc hbuf.2 _) ⟨wr.heap.size, 0, none⟩ 2 2 [u0, u1] hx rfl ?_ ?_ ?_ ?_ ?_ ?_
  · intro j u hj
    have : ((⟨wr.heap.size, 0, none⟩ : Addr).add j) = ⟨wr.heap.size, j, none⟩ := by rw [Go.WideShapes.add_plain, Nat.zero_add]
    rw [this, cell_at (at_a0 _ _ _)]
    simpa using hj
  · intro u hu
    simp only [List.mem_cons, List.not_mem_nil, or_false] at hu
    rcases hu with rfl | rfl
    · exact h1
    · exact h2
  · unfold maxLen; omega
  · have : (L.length + 2) * bytes ≤ 1000000002 * 1000 := Nat.mul_le_mul (by omega) hby
    omega
  · simp; omega
  · intro v' w' hown hg _
    refine h v' w' ⟨?_, ?_⟩ ⟨hg.os, hg.tape, hg.output, by have := hg.size; simp at this; omega, fun k hk hne => (hg.block k (by simp; omega) hne).trans (heap_alloc_old wr _ hk)⟩
    · intro q hq
      rcases List.mem_append.1 hq with hq | hq
      · exact hbuf.1 q hq
      · simp only [List.mem_cons, List.not_mem_nil, or_false] at hq
        rcases hq with rfl | rfl <;> rfl
    · rw [List.flatten_append, List.length_append]
      simpa using hown
theorem repeat_any (c : Nat) (w : World) (hc : c ≤ 1000000) : Calls Try.prog 46 #[.string ⟨#[0]⟩, .int .i64 c] w fun e w' => e = .returned (.string ⟨(List.replicate c (0 : UInt8)).toArray⟩) ∧ Below w.heap.size w w' := by
  have h := Try.strings_Repeat ⟨#[0]⟩ c w (by omega) (by show 1 * c ≤ _; omega)
  have e : Lib.repeatL (ByteArray.mk #[0]).data.toList c = List.replicate c (0 : UInt8) := by
    have := Lib.repeatL_replicate 0 1 c
    rw [Nat.mul_one] at this
    exact this
  rw [e] at h
  exact h
theorem tck_ok : ∀ (l : List (List UInt8 × Nat)) (i : Nat), tckL l i = (0, 0) → ∀ x ∈ l, x.1.contains 0 = false ∧ x.1.length ≤ x.2
  | [], _, _, x, hx => by simp at hx
  | (s, r) :: l, i, h, x, hx => by
    rw [tckL] at h
    rcases hc : s.contains 0 with _ | _
    · rw [hc, if_neg (by decide)] at h
      by_cases hl : r < s.length
      · rw [if_pos hl] at h
        simp at h
      · rw [if_neg hl] at h
        rcases List.mem_cons.1 hx with rfl | hx
        · exact ⟨hc, Nat.le_of_not_lt hl⟩
        · exact tck_ok l (i + 1) h x hx
    · rw [hc, if_pos rfl] at h
      simp at h
/-- a text's place: the text, and as many 0 as there is room -/
def fills (l : List (List UInt8 × Nat)) : List (List UInt8) := l.flatMap fun x => [x.1, List.replicate (x.2 - x.1.length) 0]
def partsT (t : Tl) : List (List UInt8) := ([84, 65, 71] :: fills (pairs t)) ++ ((if t.tr = 0 then [] else [bigL t.tr.toNat 2]) ++ [bigL t.ge.toNat 1])
def printT (t : Tl) : List UInt8 := (partsT t).flatten
theorem fills_snoc (l : List (List UInt8 × Nat)) (x : List UInt8 × Nat) : fills (l ++ [x]) = fills l ++ [x.1, List.replicate (x.2 - x.1.length) 0] := by simp [fills]
theorem fills_len (l : List (List UInt8 × Nat)) : (fills l).length = 2 * l.length := by
  induction l with
  | nil => rfl
  | cons x l ih =>
    have : fills (x :: l) = [x.1, List.replicate (x.2 - x.1.length) 0] ++ fills l := rfl
    rw [this, List.length_append, ih, List.length_cons]
    simp
    omega

theorem join_recs (base : Nat) (v : Value) (PS : List (List UInt8)) (w : World) (h : Recs w base 9 1 v (PS.map strR)) (hn : PS.length ≤ 1000000000) (hs : PS.flatten.length ≤ 1000000000) :
    Calls Try.prog 48 #[v] w fun e w' => e = .returned (.string ⟨PS.flatten.toArray⟩) ∧ Below w.heap.size w w' := by
  obtain ⟨a, cap, rfl, hc, hr⟩ := strs_at h
  exact octJoin_any a _ cap PS w hr hc hn hs
theorem fit_len (s : List UInt8) (r : Nat) (h : s.length ≤ r) : s.length + (r - s.length) = r := by omega
theorem printT_len (t : Tl) (h : ∀ x ∈ pairs t, x.1.length ≤ x.2) : (printT t).length = 128 := by
  have h0 := h (t.t0, 30) (by simp [pairs])
  have h1 := h (t.t1, 30) (by simp [pairs])
  have h2 := h (t.t2, 30) (by simp [pairs])
  have h3 := h (t.t3, 4) (by simp [pairs])
  have h4 := h (t.t4, last4 t.tr) (by simp [pairs])
  simp only at h0 h1 h2 h3 h4
  unfold printT partsT pairs
  by_cases ht : t.tr = 0
  · have e4 : last4 t.tr = 30 := by unfold last4; rw [if_pos ht]
    rw [e4] at h4 ⊢
    simp only [fills, List.flatMap_cons, List.flatMap_nil, ht, if_true, List.cons_append, List.nil_append, List.flatten_cons, List.flatten_nil, List.length_append, List.length_cons, List.length_nil, List.length_replicate, bigL_len]
    omega
  · have e4 : last4 t.tr = 28 := by unfold last4; rw [if_neg ht]
    rw [e4] at h4 ⊢
    simp only [fills, List.flatMap_cons, List.flatMap_nil, ht, if_false, List.cons_append, List.nil_append, List.flatten_cons, List.flatten_nil, List.length_append, List.length_cons, List.length_nil, List.length_replicate, bigL_len]
    omega

set_option maxHeartbeats 1000000 in
set_option maxRecDepth 100000 in
theorem tprint_bad (t : Tl) (w : World) (hc : (tcheck t).1 ≠ 0) :
    Calls Try.prog 12 #[tlV t] w fun e w' => e = .returned (.tuple #[.string ⟨#[]⟩, .agg #[.int .i64 (tcheck t).1, .int .i64 (tcheck t).2]]) ∧ Below w.heap.size w w' := by
  have CK := Lib.hid (fun w => tcheck_any t w)
  unfold CheckSays at CK
  generalize (tcheck t).1 = c at *
  generalize (tcheck t).2 = q at *
  have BD := Lib.hid (fun w => bad_any c q w)
  rw [show (c != 0) = true by simpa using hc] at BD
  unfold tlV tlR at *
  clear hc
  go_enter Try.func12, Try.ntmps12
  go_upto_region 3 with (first | (go_at_call 14; (with_reducible refine (CK.out _).mono ?_); rintro e w1 ⟨rfl, hb1⟩; have K1 := Lib.hid hb1; have HF1 := Lib.hid (block_below (at_a2 w _ _ _) hb1); clear hb1) | (go_at_call 19; (with_reducible refine (BD.out _).mono ?_); rintro e w2 ⟨rfl, hb2⟩; have K2 := Lib.hid hb2; clear hb2))
  have hF2 := block_below ((heap_alloc_old w1 (.cells #[.int .i64 c, .int .i64 q] 33) (Array.getElem?_eq_some_iff.1 HF1.out).1).trans HF1.out) K2.out
  have hT2 := block_below (at_a0 w1 #[.int .i64 c, .int .i64 q] 33) K2.out
  have c0 := cell_at (j := 0) hT2; have c1 := cell_at (j := 1) hT2; simp only [List.getElem?_toArray, List.getElem?_cons_zero, List.getElem?_cons_succ] at c0 c1
  have d0 := cell_at (j := 0) hF2; have d1 := cell_at (j := 1) hF2; have df0 := free_at (j := 0) hF2; have df1 := free_at (j := 1) hF2; simp only [List.getElem?_toArray, List.getElem?_cons_zero, List.getElem?_cons_succ] at d0 d1
  have K := Lib.hid (nextB (nextB (((Below.refl _ _).alloc (Nat.le_refl _) _).alloc (by simp) _) K1.out) (below_a1 K2.out))
  have HF := Lib.hid hF2
  have hne : w.heap.size + 1 ≠ w1.heap.size := by have := K1.out.size; simp at this; omega
  clear hT2 hF2 HF1 K1 K2
  go_region
  go_wp2
  refine end_tmp_cell rfl rfl rfl (store2 (show (World.drew w2).heap[w.heap.size + 1]? = _ from HF.out) rfl) Try.underlying33 rfl (by kernel_rfl) ⟨rfl, ?_⟩
  exact Below.setCell (Below.setCell K.out.drew (by simp) _) (by simp) _

def TPrints (s : List UInt8) (w : World) (e : Ending) (w' : World) : Prop := e = .returned (.tuple #[.string ⟨s.toArray⟩, .agg #[.int .i64 0, .int .i64 0]]) ∧ Below w.heap.size w w'
set_option maxHeartbeats 4000000 in
set_option maxRecDepth 100000 in
theorem tprint_ok (t : Tl) (w : World) (hc : tcheck t = (0, 0)) : Calls Try.prog 12 #[tlV t] w (TPrints (printT t) w) := by
  have hok := tck_ok _ _ hc
  have hl4 : last4 t.tr ≤ 30 := by unfold last4; split <;> omega
  have hlen : ∀ j (hj : j < 5), ((texts t)[j]'hj).length ≤ (rooms t.tr)[j]'hj := by
    intro j hj
    have := pairs_drop t j hj
    have h2 : ((texts t)[j]'hj, (rooms t.tr)[j]'hj) ∈ pairs t := List.mem_of_mem_drop (by rw [this]; exact List.mem_cons_self)
    exact (hok _ h2).2
  have CK := Lib.hid (fun w => tcheck_any t w)
  unfold CheckSays at CK
  rw [hc] at CK
  have BD := Lib.hid (fun w => bad_any 0 0 w)
  rw [show ((0 : Int) != 0) = false by rfl] at BD
  have RM := Lib.hid (fun w => room_any t w)
  have LS := Lib.hid (fun w => list_any t w)
  have HI := Lib.hid (fun j hj w => index5 t.t0 t.t1 t.t2 t.t3 t.t4 j hj w)
  have HLEN := Lib.hid hlen
  have HPL := Lib.hid (printT_len t (fun x hx => (hok x hx).2))
  unfold tlV tlR txV rmV at *
  clear hok hlen hc
  go_enter Try.func12, Try.ntmps12
  go_upto_region 4 with (first | (go_at_call 14; (with_reducible refine (CK.out _).mono ?_); rintro e w1 ⟨rfl, hb1⟩; have K1 := Lib.hid (below_a2 hb1); have X1 := Lib.hid (block_below (block_below (at_a1 w _ _ _) hb1) (((Below.refl _ _).alloc (Nat.le_refl _) _) : Below _ w1 (w1.alloc (.cells #[.int .i64 0, .int .i64 0] 33)))); have HF1 := Lib.hid (block_below (block_below (at_a2 w _ _ _) hb1) (((Below.refl _ _).alloc (Nat.le_refl _) _) : Below _ w1 (w1.alloc (.cells #[.int .i64 0, .int .i64 0] 33)))); clear hb1) | (go_at_call 19; (with_reducible refine (BD.out _).mono ?_); rintro e w2 ⟨rfl, hb2⟩; have X2 := Lib.hid (block_below X1.out hb2); have F2 := Lib.hid (block_below HF1.out hb2); have K2 := Lib.hid (nextB K1.out (below_a1 hb2)); clear hb2))
  clear CK BD K1 X1 HF1
  have a0 := cell_at (j := 0) X2.out; have a1 := cell_at (j := 1) X2.out; have a2 := cell_at (j := 2) X2.out; have a3 := cell_at (j := 3) X2.out; have a4 := cell_at (j := 4) X2.out; have a5 := cell_at (j := 5) X2.out; have a6 := cell_at (j := 6) X2.out; simp only [List.getElem?_toArray, List.getElem?_cons_zero, List.getElem?_cons_succ] at a0 a1 a2 a3 a4 a5 a6
  go_upto_region 5 with (go_at_call 44; (with_reducible refine (RM.out _).mono ?_); rintro e w3 ⟨rfl, hb3⟩; have X3 := Lib.hid (block_below X2.out hb3); have F3 := Lib.hid (block_below F2.out hb3); have K3 := Lib.hid (nextB K2.out hb3); clear hb3)
  clear a0 a1 a2 a3 a4 a5 a6
  have X4 := Lib.hid (block_below X3.out ((Below.refl _ w3).alloc (Nat.le_refl _) (.cells #[.int .i64 30, .int .i64 30, .int .i64 30, .int .i64 4, .int .i64 (last4 t.tr : Nat)] 75)))
  have F4 := Lib.hid (block_below F3.out ((Below.refl _ w3).alloc (Nat.le_refl _) (.cells #[.int .i64 30, .int .i64 30, .int .i64 30, .int .i64 4, .int .i64 (last4 t.tr : Nat)] 75)))
  have B4 := Lib.hid (at_a0 w3 #[.int .i64 30, .int .i64 30, .int .i64 30, .int .i64 4, .int .i64 (last4 t.tr : Nat)] 75)
  have K4 := Lib.hid (K3.out.alloc K3.out.size (.cells #[.int .i64 30, .int .i64 30, .int .i64 30, .int .i64 4, .int .i64 (last4 t.tr : Nat)] 75))
  generalize w3.alloc (.cells #[.int .i64 30, .int .i64 30, .int .i64 30, .int .i64 4, .int .i64 (last4 t.tr : Nat)] 75) = V at *
  generalize w3.heap.size = vb at *
  clear X2 F2 K2 X3 F3 K3 RM
  go_upto_region 6 with (fail)
  have hR := (Array.getElem?_eq_some_iff.1 B4.out).1
  have hR2 := (Array.getElem?_eq_some_iff.1 X4.out).1
  have hR3 := (Array.getElem?_eq_some_iff.1 F4.out).1
  have L5 := Lib.hid (Recs.lit V V.heap.size 9 (.string ⟨#[84, 65, 71]⟩) (Nat.le_refl _))
  have X5 := Lib.hid (block_below X4.out ((Below.refl _ V).alloc (Nat.le_refl _) (.cells #[.string ⟨#[84, 65, 71]⟩] 9)))
  have F5 := Lib.hid (block_below F4.out ((Below.refl _ V).alloc (Nat.le_refl _) (.cells #[.string ⟨#[84, 65, 71]⟩] 9)))
  have B5 := Lib.hid (block_below B4.out ((Below.refl _ V).alloc (Nat.le_refl _) (.cells #[.string ⟨#[84, 65, 71]⟩] 9)))
  have K5 := Lib.hid (K4.out.alloc K4.out.size (.cells #[.string ⟨#[84, 65, 71]⟩] 9))
  have hRW : V.heap.size ≤ (V.alloc (.cells #[.string ⟨#[84, 65, 71]⟩] 9)).heap.size := by simp
  have hwR := K4.out.size
  generalize V.alloc (.cells #[.string ⟨#[84, 65, 71]⟩] 9) = W at *
  generalize V.heap.size = R at *
  generalize hxe : w.heap.size = xb at *
  have HX := Lib.hid hxe
  clear X4 F4 B4 K4 hxe hwR
  have a0 := cell_at (j := 0) X5.out; have a1 := cell_at (j := 1) X5.out; have a2 := cell_at (j := 2) X5.out; have a3 := cell_at (j := 3) X5.out; have a4 := cell_at (j := 4) X5.out; have a5 := cell_at (j := 5) X5.out; have a6 := cell_at (j := 6) X5.out; simp only [List.getElem?_toArray, List.getElem?_cons_zero, List.getElem?_cons_succ] at a0 a1 a2 a3 a4 a5 a6
  go_wp2_with (go_at_call 45; (with_reducible refine (LS.out _).mono ?_); rintro e w6 ⟨rfl, hb6⟩; have X6 := Lib.hid (block_below X5.out hb6); have F6 := Lib.hid (block_below F5.out hb6); have B6 := Lib.hid (block_below B5.out hb6); have K6 := Lib.hid (K5.out.trans (hb6.mono (by omega))); have L6 := Lib.hid (L5.out.below hb6); have hR6 : R ≤ w6.heap.size := Nat.le_trans hRW hb6.size; clear hb6)
  clear a0 a1 a2 a3 a4 a5 a6 X5 F5 B5 K5 L5 LS hRW
  go_loopw [6, 20] (fun v i wr => ∃ (j : Nat), j ≤ 5 ∧ i = .int .i64 j ∧ R ≤ wr.heap.size ∧ Hid (Recs wr R 9 1 v (([84, 65, 71] :: fills ((pairs t).take j)).map strR)) ∧ Hid (wr.heap[xb]? = some (.cells #[.string ⟨t.t0.toArray⟩, .string ⟨t.t1.toArray⟩, .string ⟨t.t2.toArray⟩, .string ⟨t.t3.toArray⟩, .string ⟨t.t4.toArray⟩, .int .u8 t.tr.toNat, .int .u8 t.ge.toNat] 25 (0, 0))) ∧ Hid (wr.heap[xb + 1]? = some (.cells #[.int .i64 0, .int .i64 0] 33 (0, 0))) ∧ Hid (wr.heap[vb]? = some (.cells #[.int .i64 30, .int .i64 30, .int .i64 30, .int .i64 4, .int .i64 (last4 t.tr : Nat)] 75 (0, 0))) ∧ Hid (Below xb w wr)) (fun _ i _ => 5 - (intOf i).toNat)
  case atStart => exact ⟨0, by omega, rfl, hR6, L6, X6, F6, B6, K6⟩
  case round =>
    obtain ⟨j, hj, rfl, hRr, HL, HX6, HF, HB, HK⟩ := hrel
    clear L6 X6 F6 B6 K6
    have hfl := fills_len ((pairs t).take j)
    rw [List.length_take] at hfl
    by_cases hj5 : j < 5
    · have hd := pairs_drop t j hj5
      have hi := HI.out j hj5 wr
      have hle := HLEN.out j hj5
      have hc := room_cell HB.out j hj5
      have hr := rooms_le t.tr j hj5
      have htake : (pairs t).take (j + 1) = (pairs t).take j ++ [((texts t)[j]'hj5, (rooms t.tr)[j]'hj5)] := by
        have h5 : j < (pairs t).length := hj5
        rw [List.take_succ_eq_append_getElem h5]
        rw [List.drop_eq_getElem_cons h5] at hd
        rw [(List.cons.inj hd).1]
      have HT := Lib.hid htake
      unfold texts at hle HT
      clear hd htake
      generalize [t.t0, t.t1, t.t2, t.t3, t.t4][j]'hj5 = s at *
      generalize (rooms t.tr)[j]'hj5 = r at *
      have RP := Lib.hid (fun w => repeat_any (r - s.length) w (by omega))
      have e1 : (r : Int) - s.length = ((r - s.length : Nat) : Int) := by omega
      have e2 : (0 : Int) ≤ (r : Int) - s.length := by omega
      have HE1 := Lib.hid e1
      rw [← e1] at RP
      have g0 : (j : Int) < 5 := by omega
      have g1 : (0 : Int) ≤ j := by omega
      have hfl2 : (fills ((pairs t).take j)).length ≤ 10 := by omega
      have HZ := Lib.hid (fills_snoc ((pairs t).take j) (s, r))
      clear e1 hfl
      generalize fills ((pairs t).take j) = FL at *
      generalize List.replicate (r - s.length) (0 : UInt8) = z at *
      go_wp2_with (first | (go_at_call 46; (with_reducible refine (RP.out _).mono ?_); rintro e w7 ⟨rfl, hb7⟩; have L7 := Lib.hid (HL.out.below hb7); have X7 := Lib.hid (block_below HX6.out hb7); have F7 := Lib.hid (block_below HF.out hb7); have B7 := Lib.hid (block_below HB.out hb7); have K7 := Lib.hid (HK.out.trans (hb7.mono (by omega))); have hR7 : R ≤ w7.heap.size := Nat.le_trans hRr hb7.size; clear hb7) | (at_builtin; refine wpList_push2 w7 rfl (.tmp 24) (.tmp 33) 77 rfl R 9 16 _ Try.underlying77 info_str1 rfl (by decide) _ (([84, 65, 71] :: FL).map strR) (.string ⟨s.toArray⟩) (.string ⟨z.toArray⟩) rfl rfl (by rfl) L7.out (by rfl) (by rw [List.length_map, List.length_cons]; omega) hR7 _ ?_; intro v8 w8 hr8 hg8; have hl8 := L7.out.lt; have L8 := Lib.hid hr8; have X8 := Lib.hid (block_grown X7.out hg8 (fun j e => (hl8 j e).1) (by omega)); have F8 := Lib.hid (block_grown F7.out hg8 (fun j e => (hl8 j e).1) (by omega)); have B8 := Lib.hid (block_grown B7.out hg8 (fun j e => (hl8 j e).1) (by omega)); have K8 := Lib.hid (grown_belowR K7.out hg8 (fun j e => by have := (hl8 j e).1; omega) (by omega)); have hR8 : R ≤ w8.heap.size := Nat.le_trans hR7 hg8.size; clear hl8 hr8 hg8))
      refine ⟨⟨j + 1, by omega, by simp, hR8, Lib.hid ?_, X8, F8, B8, K8⟩, by simp [intOf]; omega⟩
      rw [HT.out, HZ.out]
      have := L8.out
      simpa [strR] using this
    · have g0 : ¬ (j : Int) < 5 := by omega
      obtain rfl : j = 5 := by omega
      have e0 : (pairs t).take 5 = pairs t := rfl
      rw [e0] at HL hfl
      have hpl : (pairs t).length = 5 := rfl
      rw [hpl] at hfl
      have JO := Lib.hid (fun v w h => join_recs R v (partsT t) w h (by
        unfold partsT
        simp only [List.length_append, List.length_cons, List.length_nil]
        split <;> simp <;> omega) (by have := HPL.out; unfold printT at this; omega))
      have HPT := Lib.hid (show printT t = (partsT t).flatten from rfl)
      have hge := UInt8.toNat_lt t.ge
      have htr := UInt8.toNat_lt t.tr
      have G1 := Lib.hid (fun w => big_any t.ge.toNat 1 1 w (Lib.hid (by omega)) (Lib.hid (by decide)))
      have G2 := Lib.hid (fun w => big_any t.tr.toNat 2 2 w (Lib.hid (by omega)) (Lib.hid (by decide)))
      have hw1 : IntKind.u64.wrap (t.ge.toNat : Int) = t.ge.toNat := by simp only [IntKind.wrap, IntKind.bits, IntKind.signed]; simp; omega
      have hw2 : IntKind.u64.wrap (t.tr.toNat : Int) = t.tr.toNat := by simp only [IntKind.wrap, IntKind.bits, IntKind.signed]; simp; omega
      have hb1 := byte_le t.ge
      have hb2 := byte_le t.tr
      clear e0 hpl HI HLEN hge htr HPL
      have a0 := cell_at (j := 0) HX6.out; have a1 := cell_at (j := 1) HX6.out; have a2 := cell_at (j := 2) HX6.out; have a3 := cell_at (j := 3) HX6.out; have a4 := cell_at (j := 4) HX6.out; have a5 := cell_at (j := 5) HX6.out; have a6 := cell_at (j := 6) HX6.out; simp only [List.getElem?_toArray, List.getElem?_cons_zero, List.getElem?_cons_succ] at a0 a1 a2 a3 a4 a5 a6
      by_cases ht : t.tr = 0
      · have t1 : (((t.tr.toNat : Nat) : Int) != 0) = false := by rw [ht]; rfl
        have HP2 := Lib.hid (show partsT t = ([84, 65, 71] :: fills (pairs t)) ++ [bigL t.ge.toNat 1] by unfold partsT; rw [if_pos ht]; rfl)
        clear ht
        generalize partsT t = PS at *
        generalize fills (pairs t) = FL at *
        generalize bigL t.ge.toNat 1 = q1 at *
        go_wp2_with (first | (go_at_call 47; (with_reducible refine (G1.out _).mono ?_); rintro e w7 ⟨rfl, hb7⟩; have L7 := Lib.hid (HL.out.below hb7); have F7 := Lib.hid (block_below HF.out hb7); have K7 := Lib.hid (HK.out.trans (hb7.mono (by omega))); have hR7 : R ≤ w7.heap.size := Nat.le_trans hRr hb7.size; clear hb7) | (at_builtin; refine wpList_pushR w7 rfl (.tmp 46) (.tmp 51) 77 rfl R 9 1 16 _ Try.underlying77 info_str1 rfl (by decide) (by decide) _ (([84, 65, 71] :: FL).map strR) (strR q1) _ (by rfl) rfl (one_strR _) (by rfl) L7.out (by rfl) (by rw [List.length_map, List.length_cons]; omega) hR7 _ ?_; intro v8 w8 hr8 hg8; have hl8 := L7.out.lt; have L8 : Hid (Recs w8 R 9 1 v8 (PS.map strR)) := Lib.hid (by rw [HP2.out, List.map_append]; exact hr8); have F8 := Lib.hid (block_grown F7.out hg8 (fun j e => (hl8 j e).1) (by omega)); have K8 := Lib.hid (grown_belowR K7.out hg8 (fun j e => by have := (hl8 j e).1; omega) (by omega)); have hR8 : R ≤ w8.heap.size := Nat.le_trans hR7 hg8.size; clear hl8 hr8 hg8) | (go_at_call 48; (with_reducible refine (JO.out _ _ L8.out).mono ?_); rintro e w9 ⟨rfl, hb9⟩; have F9 := Lib.hid (block_below F8.out hb9); have K9 := Lib.hid (K8.out.trans (hb9.mono (by omega))); have f0 := cell_at (j := 0) F9.out; have f1 := cell_at (j := 1) F9.out; have ff0 := free_at (j := 0) F9.out; have ff1 := free_at (j := 1) F9.out; simp only [List.getElem?_toArray, List.getElem?_cons_zero, List.getElem?_cons_succ] at f0 f1; clear hb9))
        have hx := HX.out
        subst hx
        refine end_tmp_cell rfl rfl rfl (store2 F9.out rfl) Try.underlying33 rfl (by kernel_rfl) ⟨by rw [HPT.out]; rfl, ?_⟩
        exact Below.setCell (Below.setCell K9.out (by simp) _) (by simp) _
      · have t1 : (((t.tr.toNat : Nat) : Int) != 0) = true := by
          simp
          intro e
          apply ht
          rw [u8_eq]
          exact e
        have HP2 := Lib.hid (show partsT t = (([84, 65, 71] :: fills (pairs t)) ++ [bigL t.tr.toNat 2]) ++ [bigL t.ge.toNat 1] by unfold partsT; rw [if_neg ht, List.append_assoc])
        clear ht
        generalize partsT t = PS at *
        generalize fills (pairs t) = FL at *
        generalize bigL t.ge.toNat 1 = q1 at *
        generalize bigL t.tr.toNat 2 = q2 at *
        go_wp2_with (first | (go_at_call 47; (with_reducible refine (G2.out _).mono ?_); rintro e w5 ⟨rfl, hb5⟩; have L5 := Lib.hid (HL.out.below hb5); have X5 := Lib.hid (block_below HX6.out hb5); have F5 := Lib.hid (block_below HF.out hb5); have K5 := Lib.hid (HK.out.trans (hb5.mono (by omega))); have hR5 : R ≤ w5.heap.size := Nat.le_trans hRr hb5.size; clear hb5) | (at_builtin; refine wpList_pushR w5 rfl (.tmp 39) (.tmp 44) 77 rfl R 9 1 16 _ Try.underlying77 info_str1 rfl (by decide) (by decide) _ (([84, 65, 71] :: FL).map strR) (strR q2) _ (by rfl) rfl (one_strR _) (by rfl) L5.out (by rfl) (by rw [List.length_map, List.length_cons]; omega) hR5 _ ?_; intro v6 w6x hr6 hg6; have hl6 := L5.out.lt; have L6 : Hid (Recs w6x R 9 1 v6 ((([84, 65, 71] :: FL) ++ [q2]).map strR)) := Lib.hid (by rw [List.map_append]; exact hr6); have X6 := Lib.hid (block_grown X5.out hg6 (fun j e => (hl6 j e).1) (by omega)); have F6 := Lib.hid (block_grown F5.out hg6 (fun j e => (hl6 j e).1) (by omega)); have K6 := Lib.hid (grown_belowR K5.out hg6 (fun j e => by have := (hl6 j e).1; omega) (by omega)); have hR6x : R ≤ w6x.heap.size := Nat.le_trans hR5 hg6.size; have b0 := cell_at (j := 0) X6.out; have b1 := cell_at (j := 1) X6.out; have b2 := cell_at (j := 2) X6.out; have b3 := cell_at (j := 3) X6.out; have b4 := cell_at (j := 4) X6.out; have b5 := cell_at (j := 5) X6.out; have b6 := cell_at (j := 6) X6.out; simp only [List.getElem?_toArray, List.getElem?_cons_zero, List.getElem?_cons_succ] at b0 b1 b2 b3 b4 b5 b6; clear hl6 hr6 hg6) | (go_at_call 47; (with_reducible refine (G1.out _).mono ?_); rintro e w7 ⟨rfl, hb7⟩; have L7 := Lib.hid (L6.out.below hb7); have F7 := Lib.hid (block_below F6.out hb7); have K7 := Lib.hid (K6.out.trans (hb7.mono (by omega))); have hR7 : R ≤ w7.heap.size := Nat.le_trans hR6x hb7.size; clear hb7) | (at_builtin; refine wpList_pushR w7 rfl (.tmp 46) (.tmp 51) 77 rfl R 9 1 16 _ Try.underlying77 info_str1 rfl (by decide) (by decide) _ ((([84, 65, 71] :: FL) ++ [q2]).map strR) (strR q1) _ (by rfl) rfl (one_strR _) (by rfl) L7.out (by rfl) (by simp; omega) hR7 _ ?_; intro v8 w8 hr8 hg8; have hl8 := L7.out.lt; have L8 : Hid (Recs w8 R 9 1 v8 (PS.map strR)) := Lib.hid (by rw [HP2.out, List.map_append]; exact hr8); have F8 := Lib.hid (block_grown F7.out hg8 (fun j e => (hl8 j e).1) (by omega)); have K8 := Lib.hid (grown_belowR K7.out hg8 (fun j e => by have := (hl8 j e).1; omega) (by omega)); have hR8 : R ≤ w8.heap.size := Nat.le_trans hR7 hg8.size; clear hl8 hr8 hg8) | (go_at_call 48; (with_reducible refine (JO.out _ _ L8.out).mono ?_); rintro e w9 ⟨rfl, hb9⟩; have F9 := Lib.hid (block_below F8.out hb9); have K9 := Lib.hid (K8.out.trans (hb9.mono (by omega))); have f0 := cell_at (j := 0) F9.out; have f1 := cell_at (j := 1) F9.out; have ff0 := free_at (j := 0) F9.out; have ff1 := free_at (j := 1) F9.out; simp only [List.getElem?_toArray, List.getElem?_cons_zero, List.getElem?_cons_succ] at f0 f1; clear hb9))
        have hx := HX.out
        subst hx
        refine end_tmp_cell rfl rfl rfl (store2 F9.out rfl) Try.underlying33 rfl (by kernel_rfl) ⟨by rw [HPT.out]; rfl, ?_⟩
        exact Below.setCell (Below.setCell K9.out (by simp) _) (by simp) _
end Go.Proofs.Ytlgkbkbghheokaa
