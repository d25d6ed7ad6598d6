/- A []string that a call builds up: a text, then more of them. -/
import Derived.Test.YtmnmonmbdgedbaaLow
namespace Go.Proofs.Ytmnmonmbdgedbaa
open Go.RowKit
set_option linter.unusedVariables false

def strR (s : List UInt8) : List Value := [.string ⟨s.toArray⟩]
theorem info_str1 : (Try.prog.info? 9).map (fun i => (i.zero, i.size, i.bytes)) = some (some (.string ⟨#[]⟩), 1, 16) := by kernel_rfl
theorem one_strR (x : List UInt8) : ∀ u ∈ strR x, u.oneCell' = true := by
  intro u hu
  simp only [strR, List.mem_cons, List.not_mem_nil, or_false] at hu
  rw [hu]; rfl
theorem strs_at {w : World} {base e : Nat} {v : Value} {ps : List (List UInt8)} (h : Recs w base e 1 v (ps.map strR)) : ∃ a cap, v = .slice a ps.length cap ∧ ps.length ≤ cap ∧ StrsAt w a ps.length ps := by
  obtain ⟨a, cap, hv, hc, hr⟩ := h.at
  rw [List.length_map] at hv hr hc
  refine ⟨a, cap, hv, hc, rfl, ?_⟩
  rcases hr.2.2 with h0 | ⟨b, off, ha, hb, hc⟩
  · exact .inl h0
  · refine .inr ⟨b, off, ha, hb, fun i hi => ?_⟩
    have := hc i (by simpa using hi) 0 (by decide)
    simp only [Nat.mul_one, Nat.add_zero] at this
    rw [this]
    simp [strR]
/-- a slice of one text that the call writes out -/
theorem Recs.lit (w : World) (base e : Nat) (u : Value) (hb : base ≤ w.heap.size) : Recs (w.alloc (.cells #[u] e)) base e 1 (.slice (some ⟨w.heap.size, 0, none⟩) 1 1) [[u]] :=
  ⟨by intro r hr; obtain rfl : r = [u] := by simpa using hr
      rfl, rfl, .inr ⟨_, 1, #[u], rfl, hb, at_a0 _ _ _, Nat.le_refl _, by decide, rfl, rfl⟩⟩
theorem block_grown {w w' : World} {b base : Nat} {o : Obj} {v : Value} (h : w.heap[b]? = some o) (hg : w.grownBy w' v.ownBlock) (hv : ∀ k, v.ownBlock = some k → base ≤ k) (hb : b < base) : w'.heap[b]? = some o :=
  (hg.block b (Array.getElem?_eq_some_iff.1 h).1 (fun e => by have := hv b e.symm; omega)).trans h
theorem grown_belowR {R : Nat} {w wr w' : World} {v : Value} (hB : Below R w wr) (hg : wr.grownBy w' v.ownBlock) (hv : ∀ k, v.ownBlock = some k → R ≤ k) (hR : R ≤ wr.heap.size) : Below R w w' := by
  refine ⟨hg.os.trans hB.os, hg.tape.trans hB.tape, hg.output.trans hB.output, Nat.le_trans hB.size hg.size, fun k hk => ?_⟩
  refine (hg.block k (Nat.lt_of_lt_of_le hk hR) ?_).trans (hB.block k hk)
  intro e
  have := hv k e.symm
  omega
/-- 'l = append(l, a, b)' -/
theorem wpList_push2 {P : Program} (wr : World) {ops : Array Oper} {rest : List Oper} {o : Oper} {a : Act} {Q : Exit → Act → World → Prop} (hgd : o.guard = none) (s x : Operand) (t : TypeId)
    (ho : o.op = .call { callee := .builtin .append, args := #[s, x], argTypes := #[t, t] })
    (base e bytes : Nat) (z : Value) (ht : P.underlying t = some (.slice e)) (hinfo : (P.info? e).map (fun i => (i.zero, i.size, i.bytes)) = some (some z, 1, bytes)) (hzs : z.cells.size = 1) (hby : bytes ≤ 1000)
    (v : Value) (L : List (List Value)) (u0 u1 : Value) (h1 : u0.oneCell' = true) (h2 : u1.oneCell' = true) (hs : a.eval s = v) (hbuf : Recs wr base e 1 v L) (hx : a.eval x = .slice (some ⟨wr.heap.size, 0, none⟩) 2 2)
    (hlen : L.length ≤ 1000000000) (hbase : base ≤ wr.heap.size) (E : TypeId)
    (h : ∀ v' w', Recs w' base e 1 v' (L ++ [[u0], [u1]]) → wr.grownBy w' v.ownBlock → wpList P ops Q rest (a.put o.dst v') w') :
    wpList P ops Q (o :: rest) a (wr.alloc (.cells #[u0, u1] E)) := by
  obtain ⟨i, hi, hz0, hz1, hz2⟩ := info_parts hinfo
  refine wpList_append_own _ hgd s x t ho base e i z 1 bytes ht hi hz0 hz1 hz2 hzs (by decide) v L.length L.flatten hs (World.ownsRow.alloc hbuf.2 _) ⟨wr.heap.size, 0, none⟩ 2 2 [u0, u1] hx rfl ?_ ?_ ?_ ?_ ?_ ?_
  · intro j u hj
    have : ((⟨wr.heap.size, 0, none⟩ : Addr).add j) = ⟨wr.heap.size, j, none⟩ := by rw [Go.WideShapes.add_plain, Nat.zero_add]
    rw [this, cell_at (at_a0 _ _ _)]
    simpa using hj
  · intro u hu
    simp only [List.mem_cons, List.not_mem_nil, or_false] at hu
    rcases hu with rfl | rfl
    · exact h1
    · exact h2
  · unfold maxLen; omega
  · have : (L.length + 2) * bytes ≤ 1000000002 * 1000 := Nat.mul_le_mul (by omega) hby
    omega
  · simp; omega
  · intro v' w' hown hg _
    refine h v' w' ⟨?_, ?_⟩ ⟨hg.os, hg.tape, hg.output, by have := hg.size; simp at this; omega, fun k hk hne => (hg.block k (by simp; omega) hne).trans (heap_alloc_old wr _ hk)⟩
    · intro q hq
      rcases List.mem_append.1 hq with hq | hq
      · exact hbuf.1 q hq
      · simp only [List.mem_cons, List.not_mem_nil, or_false] at hq
        rcases hq with rfl | rfl <;> rfl
    · rw [List.flatten_append, List.length_append]
      simpa using hown
theorem join_recs (base : Nat) (v : Value) (PS : List (List UInt8)) (w : World) (h : Recs w base 9 1 v (PS.map strR)) (hn : PS.length ≤ 1000000000) (hs : PS.flatten.length ≤ 1000000000) :
    Calls Try.prog 50 #[v] w fun e w' => e = .returned (.string ⟨PS.flatten.toArray⟩) ∧ Below w.heap.size w w' := by
  obtain ⟨a, cap, rfl, hc, hr⟩ := strs_at h
  exact octJoin_any a _ cap PS w hr hc hn hs

theorem strs2 {w : World} (a0 a1 : List UInt8) (T : TypeId) : StrsAt (w.alloc (.cells #[.string ⟨a0.toArray⟩, .string ⟨a1.toArray⟩] T)) (some ⟨w.heap.size, 0, none⟩) 2 [a0, a1] := by
  refine ⟨rfl, .inr ⟨_, _, rfl, by simp, ?_⟩⟩
  intro i h
  match i, h with
  | 0, _ => exact cell_at (at_a0 _ _ _)
  | 1, _ => exact cell_at (at_a0 _ _ _)
/-- block x has the cells X, block z has the cells Z, v is a slice of the texts PS, and old blocks are as they were -/
structure PT (w0 w : World) (x : Nat) (X : Array Value) (T : TypeId) (z : Nat) (Z : Array Value) (U : TypeId) (base : Nat) (v : Value) (PS : List (List UInt8)) : Prop where
  xr : w.heap[x]? = some (.cells X T (0, 0))
  zr : w.heap[z]? = some (.cells Z U (0, 0))
  be : Below w0.heap.size w0 w
  le : base ≤ w.heap.size
  rc : Recs w base 9 1 v (PS.map strR)
section
variable {w0 w w' : World} {x z base : Nat} {X Z : Array Value} {T U : TypeId} {v v' : Value} {PS PS' : List (List UInt8)}
theorem PT.below (h : PT w0 w x X T z Z U base v PS) (k : Below w.heap.size w w') : PT w0 w' x X T z Z U base v PS :=
  ⟨block_below h.xr k, block_below h.zr k, nextB h.be k, Nat.le_trans h.le k.size, h.rc.below k⟩
theorem PT.push (h : PT w0 w x X T z Z U base v PS) (hr : Recs w' base 9 1 v' (PS'.map strR)) (hg : w.grownBy w' v.ownBlock) (hx : x < base) (hz : z < base) (h0 : w0.heap.size ≤ base) : PT w0 w' x X T z Z U base v' PS' :=
  ⟨block_grown h.xr hg (fun j e => (h.rc.lt j e).1) hx, block_grown h.zr hg (fun j e => (h.rc.lt j e).1) hz, grown_belowR h.be hg (fun j e => Nat.le_trans h0 (h.rc.lt j e).1) h.be.size, Nat.le_trans h.le hg.size, hr⟩
end
end Go.Proofs.Ytmnmonmbdgedbaa
