/- The argument of the statement OctetReads, opened: its operations as plain data. -/
import Derived.Test.YtfbdgahbhlapmaaOctReads2
import Derived.Deep.Slices
import Derived.Deep.Fields
import Derived.ChangeSame
namespace Go.Proofs.Ytfbdgahbhlapmaa
open Go.RowKit
open Go.ChangeShapes Go.WideShapes Go.Deep
set_option linter.unusedVariables false
section
variable {H : Type} {enc : TypeId × Value → H} {P : Program} {w : World} {base : Nat} {spare : Nat → Bool} {held : Bool}
theorem open_slice_fields {t e : TypeId} {fs : Array Field} {fuel : Nat} {cs : List Value} {x : DataW H × List MemPlace} (ht : P.underlying t = some (.slice e)) (he : P.underlying e = some (.struct fs))
    (hone : oneCellFields P fs = true) (hC : P.cellsOf e = fs.size) (h : DataW.trod enc P w base spare held fuel t cs = some x) :
    (cs = [.slice none 0 0] ∧ x = (.nil, [])) ∨
    ∃ (a : Addr) (len cap m : Nat) (D : Nat → DataW H) (Pl : Nat → List MemPlace), cs = [.slice (some a) len cap] ∧ base ≤ a.block ∧ len ≤ cap ∧ cap ≤ maxLen ∧ m = (if spare a.block then cap else len) ∧
      x = (.slice ((List.range len).map D) ((List.range (m - len)).map fun j => D (len + j)), MemPlace.row a (m * fs.size) ++ (List.range m).flatMap Pl) ∧
      ∀ i, i < m → ∃ (ys : List (DataW H × List MemPlace)) (n : Nat), D i = .agg (ys.map (·.1)) ∧ Pl i = ys.flatMap (·.2) ∧ ys.length = fs.size ∧
        ∀ (j : Nat) (f : Field), fs[j]? = some f → ∃ (v : Value) (y : DataW H × List MemPlace), w.cell? (a.add (i * fs.size + j)) = some v ∧ ys[j]? = some y ∧ DataW.trod enc P w base spare held n f.type [v] = some y := by
  rcases open_slice ht h with h0 | ⟨a, len, cap, m, n, D, Pl, hcs, hb, hl, hm, hmm, hx, hi⟩
  · exact .inl h0
  · refine .inr ⟨a, len, cap, m, D, Pl, hcs, hb, hl, hm, hmm, by rw [hC] at hx; exact hx, fun i him => ?_⟩
    obtain ⟨cs', hc, ht'⟩ := hi i him
    rw [hC] at hc
    obtain ⟨ys, n', hn', hy, hlen, hyl, hf⟩ := DataW.trod_struct he ht'
    obtain ⟨_, hcl, hat⟩ := World.cells?_some hc
    simp only [Prod.mk.injEq] at hy
    refine ⟨ys, n', hy.1, hy.2, hyl, fun j f hj => ?_⟩
    obtain ⟨ho, hk⟩ := hone_of hone j f hj
    have hjl : j < fs.size := (Array.getElem?_eq_some_iff.1 hj).1
    have hcell := hat j hjl
    have hv : cs'[j]? = some (cs'[j]'(by omega)) := List.getElem?_eq_getElem (by omega)
    have h1 := hf j f hj
    rw [ho, hk] at h1
    have hone' : (cs'.drop j).take 1 = [cs'[j]'(by omega)] := by
      rw [List.drop_eq_getElem_cons (by omega)]
      rfl
    rw [hone'] at h1
    have hys : ys[j]? = some (ys[j]'(by omega)) := List.getElem?_eq_getElem (by omega)
    refine ⟨_, _, ?_, hys, h1.trans hys⟩
    rw [← Go.Deep.add_add, hcell, hv]
end

theorem open_ops {H : Type} {enc : TypeId × Value → H} {w : World} {base : Nat} {spare : Nat → Bool} {held : Bool} {t : TypeId} {v : Value} {d : DataW H} {p : List MemPlace} {r : Reach} {b0 : Nat}
    (ht : t = 55) (hv : Value.okWide Try.prog w r b0 t v) (h : DataW.Trod enc Try.prog w base spare held t v d p) :
    ∃ (a : Option Addr) (len cap : Nat), v = .slice a len cap ∧ (len = 0 ∨ ∃ (b off : Nat) (l : List OpD), a = some ⟨b, off, none⟩ ∧ b < w.heap.size ∧ l.length = len ∧
      ∀ i (h : i < l.length), w.cell? ⟨b, off + i * 4, none⟩ = some (.int .i64 l[i].k) ∧ w.cell? ⟨b, off + i * 4 + 1, none⟩ = some (.int .i64 l[i].n) ∧ w.cell? ⟨b, off + i * 4 + 2, none⟩ = some (.int .i64 l[i].c) ∧ w.cell? ⟨b, off + i * 4 + 3, none⟩ = some (.string ⟨l[i].s.toArray⟩)) := by
  subst ht
  obtain ⟨sa, sl, sc, rfl⟩ := okWide_slice Try.underlying55 hv
  obtain ⟨fuel, hf⟩ := h
  have hlt := DataW.trod_lt _ _ _ _ hf
  rcases open_slice_fields Try.underlying55 Try.underlying60 (by kernel_rfl) (by kernel_rfl) hf with ⟨hc, hx⟩ | ⟨a, len, cap, m, D, Pl, hc, hb, hl, hcap, hm, hx, hi⟩
  · refine ⟨none, 0, 0, ?_, .inl rfl⟩
    simpa [Value.cells] using hc
  · have hlm : len ≤ m := by rw [hm]; split <;> omega
    have hve : Value.slice sa sl sc = .slice (some a) len cap := by simpa [Value.cells] using hc
    refine ⟨some a, len, cap, hve, ?_⟩
    by_cases h0 : len = 0
    · exact .inl h0
    right
    have hz : a.block < w.heap.size := by
      refine hlt (.cell a.block (a.off + 0)) ?_
      rw [hx]
      exact List.mem_append_left _ (MemPlace.mem_row.2 ⟨0, by simp; omega, rfl⟩)
    obtain ⟨b, off, spot⟩ := a
    have hspot : spot = none := by
      obtain ⟨ys, n, _, _, _, hf⟩ := hi 0 (by omega)
      obtain ⟨v0, y0, c0, _, t0⟩ := hf 0 _ rfl
      simpa [Addr.add] using World.cell?_spot c0
    subst hspot
    have key : ∀ i, i < len → ∃ o : OpD, w.cell? ⟨b, off + i * 4, none⟩ = some (.int .i64 o.k) ∧ w.cell? ⟨b, off + i * 4 + 1, none⟩ = some (.int .i64 o.n) ∧ w.cell? ⟨b, off + i * 4 + 2, none⟩ = some (.int .i64 o.c) ∧ w.cell? ⟨b, off + i * 4 + 3, none⟩ = some (.string ⟨o.s.toArray⟩) := by
      intro i hil
      obtain ⟨ys, n, _, _, _, hf⟩ := hi i (by omega)
      obtain ⟨v0, y0, c0, _, t0⟩ := hf 0 _ rfl
      obtain ⟨v1, y1, c1, _, t1⟩ := hf 1 _ rfl
      obtain ⟨v2, y2, c2, _, t2⟩ := hf 2 _ rfl
      obtain ⟨v3, y3, c3, _, t3⟩ := hf 3 _ rfl
      obtain ⟨n0, e0, _, _⟩ := DataW.trod_int Try.underlying3 t0
      obtain ⟨n1, e1, _, _⟩ := DataW.trod_int Try.underlying3 t1
      obtain ⟨n2, e2, _, _⟩ := DataW.trod_int Try.underlying3 t2
      obtain ⟨s3, e3, _, _⟩ := DataW.trod_string Try.underlying9 t3
      obtain ⟨l3, rfl⟩ := bytes_eta s3
      simp only [List.cons.injEq, and_true] at e0 e1 e2 e3
      subst e0 e1 e2 e3
      rw [add_plain] at c0 c1 c2 c3
      exact ⟨⟨n0, n1, n2, l3⟩, c0, c1, c2, c3⟩
    refine ⟨b, off, (List.range len).attach.map fun i => Classical.choose (key i.1 (List.mem_range.1 i.2)), rfl, hz, by simp, ?_⟩
    intro i h
    simp only [List.getElem_map, List.getElem_attach, List.getElem_range]
    exact Classical.choose_spec (key i (by simpa using h))

theorem walk_OctetReads (t : List UInt8) (ht : t.length ≤ maxLen) (base : Int) (hb : (Lit.int .i64 base).wf = true) (v : Value) (w : World)
    (hv : ∃ (a : Option Addr) (len cap : Nat), v = .slice a len cap ∧ (len = 0 ∨ ∃ (b off : Nat) (l : List OpD), a = some ⟨b, off, none⟩ ∧ b < w.heap.size ∧ l.length = len ∧
      ∀ i (h : i < l.length), w.cell? ⟨b, off + i * 4, none⟩ = some (.int .i64 l[i].k) ∧ w.cell? ⟨b, off + i * 4 + 1, none⟩ = some (.int .i64 l[i].n) ∧ w.cell? ⟨b, off + i * 4 + 2, none⟩ = some (.int .i64 l[i].c) ∧ w.cell? ⟨b, off + i * 4 + 3, none⟩ = some (.string ⟨l[i].s.toArray⟩))) :
    Calls Try.prog 11 #[.string ⟨t.toArray⟩, .int .i64 base, v] w fun e w' => e = .returned (.bool true) ∧ Below w.heap.size w w' := by
  obtain ⟨a, len, cap, rfl, h⟩ := hv
  by_cases hx : (2000 : Int) < t.length ∨ (100 : Int) < len ∨ 1099511627776 < base
  · exact walk_reads_over t base a len cap w hx
  rcases h with rfl | ⟨b, off, l, rfl, hbl, hl, hc⟩
  · exact walk_reads_nil t base a cap w (by omega) (by omega)
  · exact walk_reads_in t base b off len cap l w (by omega) (by omega) (by omega) hbl (Lib.hid hl) (Lib.hid hc)
end Go.Proofs.Ytfbdgahbhlapmaa
