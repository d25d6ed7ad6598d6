/- Slices of structs that a call makes: records as lists of cells. -/
import Derived.Test.YtdoheningeafhaaStr
import Derived.OpenShut
namespace Go.Proofs.Ytdoheningeafhaa
open Go.RowKit
set_option linter.unusedVariables false

/-- a slice value that owns a row of records which the call itself made -/
def Recs (w : World) (base e size : Nat) (v : Value) (L : List (List Value)) : Prop := (∀ r ∈ L, r.length = size) ∧ w.ownsRow base e size v L.length L.flatten
theorem flat_size {L : List (List Value)} {size : Nat} (h : ∀ r ∈ L, r.length = size) : L.flatten.length = L.length * size := by
  induction L with
  | nil => simp
  | cons r L ih =>
    rw [List.flatten_cons, List.length_append, List.length_cons, ih fun q hq => h q (List.mem_cons_of_mem _ hq), h r List.mem_cons_self, Nat.succ_mul]
    omega
theorem flat_get {L : List (List Value)} {size : Nat} (h : ∀ r ∈ L, r.length = size) (i j : Nat) (hi : i < L.length) (hj : j < size) : L.flatten[i * size + j]? = L[i][j]? := by
  induction L generalizing i with
  | nil => simp at hi
  | cons r L ih =>
    have hr := h r List.mem_cons_self
    rw [List.flatten_cons]
    rcases i with _ | i
    · rw [Nat.zero_mul, Nat.zero_add, List.getElem?_append_left (by omega)]; rfl
    · rw [List.getElem?_append_right (by rw [hr, Nat.succ_mul]; omega), hr]
      have e : (i + 1) * size + j - size = i * size + j := by rw [Nat.succ_mul]; omega
      rw [e]
      exact ih (fun q hq => h q (List.mem_cons_of_mem _ hq)) i (by simpa using hi)
theorem Recs.nil (w : World) (base e size : Nat) : Recs w base e size (.slice none 0 0) [] := ⟨by simp, World.ownsRow_nil _ _ _ _⟩
theorem Recs.kept {w w' : World} {base e size : Nat} {v : Value} {L : List (List Value)} {row : Option Nat} (h : Recs w base e size v L) (hg : w.grownBy w' row) (hne : v.ownBlock = none ∨ v.ownBlock ≠ row) : Recs w' base e size v L :=
  ⟨h.1, World.ownsRow.kept h.2 hg hne⟩
theorem Recs.below {w w' : World} {base e size : Nat} {v : Value} {L : List (List Value)} (h : Recs w base e size v L) (hb : Below w.heap.size w w') : Recs w' base e size v L := by
  refine ⟨h.1, h.2.1, ?_⟩
  rcases h.2.2 with hn | ⟨g, cap, cur, hv, hbs, hg, rest⟩
  · exact .inl hn
  · exact .inr ⟨g, cap, cur, hv, hbs, (hb.block g (Array.getElem?_eq_some_iff.1 hg).1).trans hg, rest⟩
theorem Recs.alloc {w : World} {base e size : Nat} {v : Value} {L : List (List Value)} (h : Recs w base e size v L) (o : Obj) : Recs (w.alloc o) base e size v L := ⟨h.1, World.ownsRow.alloc h.2 o⟩
theorem Recs.base {w : World} {base b2 e size : Nat} {v : Value} {L : List (List Value)} (h : Recs w base e size v L) (hb : b2 ≤ base) : Recs w b2 e size v L := by
  refine ⟨h.1, h.2.1, ?_⟩
  rcases h.2.2 with hn | ⟨g, cap, cur, hv, hbs, rest⟩
  · exact .inl hn
  · exact .inr ⟨g, cap, cur, hv, Nat.le_trans hb hbs, rest⟩
theorem Recs.lt {w : World} {base e size : Nat} {v : Value} {L : List (List Value)} (h : Recs w base e size v L) : ∀ k, v.ownBlock = some k → base ≤ k ∧ k < w.heap.size := World.ownsRow.lt h.2
/-- as a reader meets it: records in cells (nil, or a row) -/
def RecsAt (w : World) (a : Option Addr) (n size : Nat) (L : List (List Value)) : Prop :=
  L.length = n ∧ (∀ r ∈ L, r.length = size) ∧ (n = 0 ∨ ∃ b off, a = some ⟨b, off, none⟩ ∧ b < w.heap.size ∧ ∀ i (h : i < L.length) j, j < size → w.cell? ⟨b, off + (i * size + j), none⟩ = L[i][j]?)
theorem RecsAt.below {w w' : World} {a : Option Addr} {n size : Nat} {L : List (List Value)} (h : RecsAt w a n size L) (hb : Below w.heap.size w w') : RecsAt w' a n size L := by
  refine ⟨h.1, h.2.1, ?_⟩
  rcases h.2.2 with h0 | ⟨b, off, rfl, hlt, hc⟩
  · exact .inl h0
  · exact .inr ⟨b, off, rfl, Nat.lt_of_lt_of_le hlt hb.size, fun i h j hj => by rw [hb.cell (by exact hlt)]; exact hc i h j hj⟩
theorem Recs.view {w : World} {base e size : Nat} {v : Value} {L : List (List Value)} (h : Recs w base e size v L) :
    ∃ a cap, v = .slice a L.length cap ∧ L.length ≤ cap ∧ (L.length = 0 ∨ ∃ g, a = some ⟨g, 0, none⟩ ∧ base ≤ g ∧ g < w.heap.size ∧ ∀ i (h : i < L.length) j, j < size → w.cell? ⟨g, i * size + j, none⟩ = L[i][j]?) := by
  have h2 := h.2
  rcases h.2.2 with ⟨rfl, h0⟩ | ⟨g, cap, cur, rfl, hb, hg, hn, hc, hcs, ht⟩
  · exact ⟨none, 0, by rw [h0], by omega, .inl h0⟩
  · refine ⟨some ⟨g, 0, none⟩, cap, rfl, hn, .inr ⟨g, rfl, hb, (Array.getElem?_eq_some_iff.1 hg).1, fun i hi j hj => ?_⟩⟩
    have hlt : i * size + j < L.length * size := by
      have : (i + 1) * size ≤ L.length * size := Nat.mul_le_mul_right _ hi
      rw [Nat.succ_mul] at this
      omega
    rw [World.ownsRow.cellAt h2 _ hlt]
    exact flat_get h.1 i j hi hj
theorem Recs.at {w : World} {base e size : Nat} {v : Value} {L : List (List Value)} (h : Recs w base e size v L) :
    ∃ a cap, v = .slice a L.length cap ∧ L.length ≤ cap ∧ RecsAt w a L.length size L := by
  obtain ⟨a, cap, hv, hc, hr⟩ := h.view
  refine ⟨a, cap, hv, hc, rfl, h.1, ?_⟩
  rcases hr with h0 | ⟨g, ha, hb, hg, hcell⟩
  · exact .inl h0
  · exact .inr ⟨g, 0, ha, hg, fun i hi j hj => by rw [Nat.zero_add]; exact hcell i hi j hj⟩

/-- 'l = append(l, one)', l made by the call itself, one a record of 'size' cells -/
theorem wpList_pushR {P : Program} (wr : World) {ops : Array Oper} {rest : List Oper} {o : Oper} {a : Act} {Q : Exit → Act → World → Prop} (hgd : o.guard = none) (s x : Operand) (t : TypeId)
    (ho : o.op = .call { callee := .builtin .append, args := #[s, x], argTypes := #[t, t] })
    (base e size bytes : Nat) (z : Value) (ht : P.underlying t = some (.slice e)) (hinfo : (P.info? e).map (fun i => (i.zero, i.size, i.bytes)) = some (some z, size, bytes)) (hzs : z.cells.size = size) (hsz : 0 < size) (hby : bytes ≤ 1000)
    (v : Value) (L : List (List Value)) (r : List Value) (C : Array Value) (hC : C = r.toArray) (hr : r.length = size) (h1 : ∀ u ∈ r, u.oneCell' = true) (hs : a.eval s = v) (hbuf : Recs wr base e size v L) (hx : a.eval x = .slice (some ⟨wr.heap.size, 0, none⟩) 1 1)
    (hlen : L.length ≤ 1000000000) (hbase : base ≤ wr.heap.size) (E : TypeId)
    (h : ∀ v' w', Recs w' base e size v' (L ++ [r]) → wr.grownBy w' v.ownBlock → wpList P ops Q rest (a.put o.dst v') w') :
    wpList P ops Q (o :: rest) a (wr.alloc (.cells C E)) := by
  obtain ⟨i, hi, hz0, hz1, hz2⟩ := info_parts hinfo
  subst hC
  refine wpList_append_own _ hgd s x t ho base e i z size bytes ht hi hz0 hz1 hz2 hzs hsz v L.length L.flatten hs (World.ownsRow.alloc hbuf.2 _) ⟨wr.heap.size, 0, none⟩ 1 1 r hx (by omega) ?_ h1 ?_ ?_ ?_ ?_
  · intro j u hj
    have : ((⟨wr.heap.size, 0, none⟩ : Addr).add j) = ⟨wr.heap.size, j, none⟩ := by rw [Go.WideShapes.add_plain, Nat.zero_add]
    rw [this, cell_at (at_a0 _ _ _)]
    simpa using hj
  · unfold maxLen; omega
  · have : (L.length + 1) * bytes ≤ 1000000001 * 1000 := Nat.mul_le_mul (by omega) hby
    omega
  · simp; omega
  · intro v' w' hown hg _
    refine h v' w' ⟨?_, ?_⟩ ⟨hg.os, hg.tape, hg.output, by have := hg.size; simp at this; omega, fun k hk hne => (hg.block k (by simp; omega) hne).trans (heap_alloc_old wr _ hk)⟩
    · intro q hq
      rcases List.mem_append.1 hq with hq | hq
      · exact hbuf.1 q hq
      · obtain rfl : q = r := by simpa using hq
        exact hr
    · rw [List.flatten_append, List.length_append]
      simpa using hown
theorem push_core {P : Program} (wr : World) (t ty : TypeId) (base e size bytes : Nat) (z : Value) (ht : P.underlying t = some (.slice e)) (hinfo : (P.info? e).map (fun i => (i.zero, i.size, i.bytes)) = some (some z, size, bytes)) (hzs : z.cells.size = size) (hsz : 0 < size) (hby : bytes ≤ 1000)
    (v : Value) (L : List (List Value)) (r : List Value) (hr : r.length = size) (h1 : ∀ u ∈ r, u.oneCell' = true) (hbuf : Recs wr base e size v L) (hlen : L.length ≤ 1000000000) (hbase : base ≤ wr.heap.size) (E : TypeId) :
    ∃ v' w', (Builtin.append_ #[t, t] ty #[v, .slice (some ⟨wr.heap.size, 0, none⟩) 1 1]).run P (wr.alloc (.cells r.toArray E)) = .ok v' w' ∧ Recs w' base e size v' (L ++ [r]) ∧ wr.grownBy w' v.ownBlock := by
  obtain ⟨i, hi, hz0, hz1, hz2⟩ := info_parts hinfo
  obtain ⟨v', w', hrun, hown, hg, _⟩ := run_append_own (P := P) (w := wr.alloc (.cells r.toArray E)) base t ty e i z size bytes ht hi hz0 hz1 hz2 hzs hsz v L.length L.flatten (World.ownsRow.alloc hbuf.2 _) ⟨wr.heap.size, 0, none⟩ 1 1 r (by omega) (by
    intro j u hj
    have : ((⟨wr.heap.size, 0, none⟩ : Addr).add j) = ⟨wr.heap.size, j, none⟩ := by rw [Go.WideShapes.add_plain, Nat.zero_add]
    rw [this, cell_at (at_a0 _ _ _)]
    simpa using hj) h1 (by unfold maxLen; omega) (by have : (L.length + 1) * bytes ≤ 1000000001 * 1000 := Nat.mul_le_mul (by omega) hby
                                                     omega) (by simp; omega)
  refine ⟨v', w', hrun, ⟨?_, ?_⟩, ⟨hg.os, hg.tape, hg.output, by have := hg.size; simp at this; omega, fun k hk hne => (hg.block k (by simp; omega) hne).trans (heap_alloc_old wr _ hk)⟩⟩
  · intro q hq
    rcases List.mem_append.1 hq with hq | hq
    · exact hbuf.1 q hq
    · obtain rfl : q = r := by simpa using hq
      exact hr
  · rw [List.flatten_append, List.length_append]
    simpa using hown
/-- .. as a step of a region that draws its order -/
theorem step_pushR {P : Program} (wr : World) {ops : Array Oper} {o : Oper} {a : Act} {K : Act → World → Prop} {Q : Exit → Act → World → Prop} {E0 : Prop} (hgd : o.guard = none) (s x : Operand) (t : TypeId)
    (ho : o.op = .call { callee := .builtin .append, args := #[s, x], argTypes := #[t, t] })
    (base e size bytes : Nat) (z : Value) (ht : P.underlying t = some (.slice e)) (hinfo : (P.info? e).map (fun i => (i.zero, i.size, i.bytes)) = some (some z, size, bytes)) (hzs : z.cells.size = size) (hsz : 0 < size) (hby : bytes ≤ 1000)
    (v : Value) (L : List (List Value)) (r : List Value) (C : Array Value) (hC : C = r.toArray) (hr : r.length = size) (h1 : ∀ u ∈ r, u.oneCell' = true) (hs : a.eval s = v) (hbuf : Recs wr base e size v L) (hx : a.eval x = .slice (some ⟨wr.heap.size, 0, none⟩) 1 1)
    (hlen : L.length ≤ 1000000000) (hbase : base ≤ wr.heap.size) (E : TypeId)
    (h : ∀ v' w', Recs w' base e size v' (L ++ [r]) → wr.grownBy w' v.ownBlock → K (a.put o.dst v') w') :
    if Region.wanted o (yielded ops a.tmps) = true then Oper.wp P o a (wr.alloc (.cells C E)) K Q else E0 := by
  have hw : Region.wanted o (yielded ops a.tmps) = true := by simp [Region.wanted, hgd]
  rw [if_pos hw]
  subst hC
  obtain ⟨v', w', hrun, h2, h3⟩ := push_core wr t o.type base e size bytes z ht hinfo hzs hsz hby v L r hr h1 hbuf hlen hbase E
  unfold Oper.wp
  simp only [execOp, ho, resolve, invoke, builtin, Sem.run_bind, Sem.run_pure, Result.andThen_ok, List.map_toArray, List.map_cons, List.map_nil, hs, hx, hrun]
  exact h _ _ h2 h3
theorem grown_below {w wr w' : World} {v : Value} (hB : Below w.heap.size w wr) (hg : wr.grownBy w' v.ownBlock) (hv : ∀ k, v.ownBlock = some k → w.heap.size ≤ k) : Below w.heap.size w w' := by
  refine ⟨hg.os.trans hB.os, hg.tape.trans hB.tape, hg.output.trans hB.output, Nat.le_trans hB.size hg.size, fun k hk => ?_⟩
  refine (hg.block k (Nat.lt_of_lt_of_le hk hB.size) ?_).trans (hB.block k hk)
  intro e
  have := hv k e.symm
  omega
end Go.Proofs.Ytdoheningeafhaa
