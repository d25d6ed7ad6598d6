/- Layer 8 (big5): the spans, walked. | Layer 8 (big5): the codes of two signs, walked. | Layer 8 (big5): the sign of two bytes that stand for one, walked. -/
import Derived.Test.YtffhmjlojmoomaaGreatDoorZB1
import Derived.Deep.WholeRow

namespace Go.Proofs.YtffhmjlojmoomaaGreatDoor
open Go.RowKit
set_option linter.unusedVariables false
set_option linter.unusedSimpArgs false

/-- first byte and first second byte of each span -/
def hdB : List (Nat × Nat) := [(136, 86), (136, 99), (136, 101), (136, 117), (136, 161), (136, 164), (136, 166), (161, 64), (163, 64), (164, 64), (165, 64)]
def hdR (h : Nat × Nat) (t : List UInt8) : List Value := [.int .i64 h.1, .int .i64 h.2, .string ⟨t.toArray⟩]
def spB (C : Cst) : List ((Nat × Nat) × List Nat) := List.zip hdB C.b5
def spBA (C : Cst) : Array Value := (List.zipWith hdR hdB (C.b5.map listT)).flatten.toArray
theorem wp_store_new {P : Program} {w : World} {t : TypeId} {c c' : Array Value} {a : Act} {p v : Operand} {o : Oper} {K : Act → World → Prop} {Q : Exit → Act → World → Prop} (hd : o.dst = none) (hop : o.op = .store t p v) (hg : o.guard = none) (hp : a.eval p = .pointer (some ⟨w.heap.size, 0, none⟩)) (hv : a.eval v = .agg c') (hi : (P.info? t).map (·.size) = some c'.size) (ho : c.size = c'.size) (h1 : c'.all (·.oneCell') = true) (h : K (a.put none undef) (w.alloc (.cells c' t))) : Oper.wp P o a (w.alloc (.cells c t)) K Q := by
  unfold Oper.wp
  have h2 : (execOp a.eval o).run P (w.alloc (.cells c t)) = .ok .skip (w.alloc (.cells c' t)) := by
    simp [execOp, hop, hg, hp, hv, run_storeAt_new w t c c' hi ho h1, Result.andThen]
  rw [h2, Oper.upon_skip, hd]
  exact h
set_option maxHeartbeats 4000000 in
set_option maxRecDepth 100000 in
theorem bspans_any (C : Cst) (hC : Hid (CstOk C)) (w : World) : Calls Tryz.prog 63 #[] w fun e w' => e = .returned (.agg (spBA C)) ∧ Below w.heap.size w w' := by
  have HE : Hid (C.b5.map listT = textsOf Tryz.f63) := Lib.hid hC.out.b5E.symm
  have hB := (Below.refl w.heap.size w)
  go_enter Tryz.func63, Tryz.ntmps63
  go_upto_region 1 with (fail)
  generalize hL1 : (ByteArray.mk _ : ByteArray) = s1
  generalize hL2 : (ByteArray.mk _ : ByteArray) = s2
  generalize hL3 : (ByteArray.mk _ : ByteArray) = s3
  generalize hL4 : (ByteArray.mk _ : ByteArray) = s4
  generalize hL5 : (ByteArray.mk _ : ByteArray) = s5
  generalize hL6 : (ByteArray.mk _ : ByteArray) = s6
  generalize hL7 : (ByteArray.mk _ : ByteArray) = s7
  generalize hL8 : (ByteArray.mk _ : ByteArray) = s8
  generalize hL9 : (ByteArray.mk _ : ByteArray) = s9
  generalize hL10 : (ByteArray.mk _ : ByteArray) = s10
  generalize hL11 : (ByteArray.mk _ : ByteArray) = s11
  have hE : spBA C = #[.int .i64 136, .int .i64 86, .string s1, .int .i64 136, .int .i64 99, .string s2, .int .i64 136, .int .i64 101, .string s3, .int .i64 136, .int .i64 117, .string s4, .int .i64 136, .int .i64 161, .string s5, .int .i64 136, .int .i64 164, .string s6, .int .i64 136, .int .i64 166, .string s7, .int .i64 161, .int .i64 64, .string s8, .int .i64 163, .int .i64 64, .string s9, .int .i64 164, .int .i64 64, .string s10, .int .i64 165, .int .i64 64, .string s11] := by
    subst hL1 hL2 hL3 hL4 hL5 hL6 hL7 hL8 hL9 hL10 hL11
    refine (congrArg (fun T => (List.zipWith hdR hdB T).flatten.toArray) HE.out).trans ?_
    kernel_rfl
  have HS := Lib.hid hE
  clear hE hL1 hL2 hL3 hL4 hL5 hL6 hL7 hL8 hL9 hL10 hL11 HE
  iterate 38 go_step
  refine wp_store_new (by rfl) (by rfl) (by rfl) (by rfl) (by rfl) (by kernel_rfl) (by rfl) (by simp [Value.oneCell']) ?_
  go_wp2
  rw [HS.out]
  exact end_cell rfl rfl rfl (at_a0 w _ _) Tryz.underlying103 rfl (by kernel_rfl) ⟨rfl, hB.alloc (Nat.le_refl _) _⟩
end Go.Proofs.YtffhmjlojmoomaaGreatDoor

namespace Go.Proofs.YtffhmjlojmoomaaGreatDoor
open Go.RowKit
set_option linter.unusedVariables false
set_option linter.unusedSimpArgs false

def twB : List (Nat × Nat × Nat) := [(98, 202, 772), (100, 202, 780), (163, 234, 772), (165, 234, 780)]
def twBA : Array Value := #[.int .i64 98, .int .i32 202, .int .i32 772, .int .i64 100, .int .i32 202, .int .i32 780, .int .i64 163, .int .i32 234, .int .i32 772, .int .i64 165, .int .i32 234, .int .i32 780]
set_option maxHeartbeats 4000000 in
set_option maxRecDepth 100000 in
theorem btwos_any (w : World) : Calls Tryz.prog 90 #[] w fun e w' => e = .returned (.agg twBA) ∧ Below w.heap.size w w' := by
  have hB := (Below.refl w.heap.size w)
  go_enter Tryz.func90, Tryz.ntmps90
  go_wp2
  exact end_cell rfl rfl rfl (at_a0 w _ _) Tryz.underlying128 rfl (by kernel_rfl) ⟨rfl, hB.alloc (Nat.le_refl _) _⟩
end Go.Proofs.YtffhmjlojmoomaaGreatDoor

namespace Go.Proofs.YtffhmjlojmoomaaGreatDoor
open Go.RowKit
set_option linter.unusedVariables false
set_option linter.unusedSimpArgs false

theorem flat_row {sz : Nat} : ∀ (L : List (List Value)) (k : Nat) (hk : k < L.length), (∀ r ∈ L, r.length = sz) → (L.flatten.drop (k * sz)).take sz = L[k]
  | r :: L, 0, _, hL => by
    have h := hL r (by simp)
    simp [← h]
  | r :: L, k + 1, hk, hL => by
    have h := hL r (by simp)
    have e : (k + 1) * sz = r.length + k * sz := by rw [Nat.succ_mul, h]; omega
    rw [List.flatten_cons, e, List.drop_append]
    simp only [List.drop_eq_nil_of_le (show r.length ≤ r.length + k * sz by omega), List.nil_append, Nat.add_sub_cancel_left]
    exact flat_row L k (by simpa using hk) (fun x hx => hL x (by simp [hx]))
/-- the k-th row of an array of structs by value -/
theorem run_index_rows {P : Program} {T e : TypeId} {n sz : Nat} {L : List (List Value)} (hL : ∀ r ∈ L, r.length = sz) (hn : L.length = n) (hT : P.underlying T = some (.array n e)) (hag : ∀ w, (isAgg e).run P w = .ok true w) (hsz : ∀ w, (sizeOf e).run P w = .ok sz w) (k : Nat) (hk : k < L.length) (w : World) : (Instr.index T (.agg L.flatten.toArray) (.int .i64 k)).run P w = .ok (.agg L[k].toArray) w := by
  have h1 : (0 : Int) ≤ k ∧ (k : Int) < n := by omega
  have h2 : L.flatten.toArray.extract (k * sz) (k * sz + sz) = L[k].toArray := by
    rw [List.extract_toArray, List.extract_eq_take_drop, Nat.add_sub_cancel_left, flat_row L k hk hL]
  have h3 : k < n := by omega
  have h4 := flat_row L k hk hL
  simp [Instr.index, asIntOf, run_underlying hT, h1, part, hag, hsz, h2, go_sem, Result.andThen, h3, h4]
def oneF (lead c : Int) : List ((Nat × Nat) × List Nat) → Option Nat
  | [] => none
  | x :: L => if (x.1.1 : Int) = lead then match atW x.2 (c - cellB x.1.2) with | some p => some p | none => oneF lead c L else oneF lead c L
def oneB (C : Cst) (lead second : Int) : Option Nat := if cellB second < 0 then none else oneF lead (cellB second) (spB C)
theorem b5_len {C : Cst} (hC : CstOk C) : C.b5.length = 11 := by
  have h := congrArg List.length hC.b5L
  simpa using h
theorem spB_len {C : Cst} (hC : CstOk C) : (spB C).length = 11 := by
  unfold spB
  rw [List.length_zip, b5_len hC]
  rfl
theorem spB_ok {C : Cst} (hC : CstOk C) : ∀ x ∈ spB C, x.1.1 < 256 ∧ x.1.2 < 256 ∧ x.2.length ≤ 1000 ∧ ∀ n ∈ x.2, n < 65536 := by
  intro x hx
  obtain ⟨h1, h2⟩ := List.of_mem_zip (show (x.1, x.2) ∈ List.zip hdB C.b5 from hx)
  have h3 : ∀ h ∈ hdB, h.1 < 256 ∧ h.2 < 256 := by decide
  have h4 : ∀ n ∈ C.b5.map List.length, n ≤ 1000 := by rw [hC.b5L]; decide
  exact ⟨(h3 _ h1).1, (h3 _ h1).2, h4 _ (List.mem_map_of_mem h2), fun n hn => (hC.b5M _ h2 n hn).2.1⟩
def rwB (x : (Nat × Nat) × List Nat) : List Value := hdR x.1 (listT x.2)
theorem spBA_rows (C : Cst) : spBA C = ((spB C).map rwB).flatten.toArray := by
  unfold spBA spB rwB
  rw [List.zipWith_map_right, List.zip, List.map_zipWith]
end Go.Proofs.YtffhmjlojmoomaaGreatDoor
