/- Laws on structs that lie in memory: what is there behind stores; a result that is a struct. | Slices of texts: as they come in, as a call makes them; octet.Join. | Slices of structs that a call makes: records as lists of cells. | Lines of a text as plain data: no program in sight. -/
import Derived.Test.YtndpcphmndfajaaGreatDoorZRd
import Derived.Laws.ResultCell
import Derived.Laws.Rows
import Derived.Test.YtndpcphmndfajaaGreatDoorShelf
import Derived.SliceStrings
import Derived.OpenShut
import Derived.Lib.Join

namespace Go.Proofs.YtndpcphmndfajaaGreatDoor
open Go.RowKit

attribute [go_sem] Nat.add_sub_cancel_left
theorem heap_set_other {w : World} {b c j : Nat} (v : Value) (h : b ≠ c) : (w.setCell ⟨c, j, none⟩ v).heap[b]? = w.heap[b]? := Below.heap_setCell w _ v b h
theorem at_a0 (w : World) (C : Array Value) (T : TypeId) : (w.alloc (.cells C T)).heap[w.heap.size]? = some (.cells C T (0, 0)) := heap_alloc_new _ _
theorem at_a1 (w : World) (C : Array Value) (T : TypeId) (o : Obj) : ((w.alloc (.cells C T)).alloc o).heap[w.heap.size]? = some (.cells C T (0, 0)) := by
  rw [heap_alloc_old _ o (by simp)]; exact heap_alloc_new _ _
theorem at_a2 (w : World) (C : Array Value) (T : TypeId) (o : Obj) : ((w.alloc o).alloc (.cells C T)).heap[w.heap.size + 1]? = some (.cells C T (0, 0)) := by
  have h := heap_alloc_new (w.alloc o) (.cells C T)
  simpa using h
theorem below_a1 {w w1 : World} {a : Obj} (h : Below (w.alloc a).heap.size (w.alloc a) w1) : Below w.heap.size w w1 := nextB ((Below.refl _ _).alloc (Nat.le_refl _) a) h
theorem below_a2 {w w1 : World} {a b : Obj} (h : Below ((w.alloc a).alloc b).heap.size ((w.alloc a).alloc b) w1) : Below w.heap.size w w1 := below_a1 (below_a1 h)
theorem below_a3 {w w1 : World} {a b c : Obj} (h : Below (((w.alloc a).alloc b).alloc c).heap.size (((w.alloc a).alloc b).alloc c) w1) : Below w.heap.size w w1 := below_a1 (below_a2 h)
theorem block_below {w w1 : World} {b : Nat} {o : Obj} (h : w.heap[b]? = some o) (hb : Below w.heap.size w w1) : w1.heap[b]? = some o := (hb.block b (Array.getElem?_eq_some_iff.1 h).1).trans h
theorem block_only {w w1 : World} {b c : Nat} {o : Obj} (h : w.heap[b]? = some o) (hb : Only c w w1) (hne : b ≠ c) : w1.heap[b]? = some o :=
  (hb.block b (Array.getElem?_eq_some_iff.1 h).1 (by intro e; exact hne (Option.some.inj e))).trans h

theorem InAt.alloc {T : TypeId} {w : World} {b : Nat} {m : Rd} (h : InAt T w b m) (o : Obj) : InAt T (w.alloc o) b m := (heap_alloc_old w o h.lt).trans h
section
variable {P : Program} {fn : Func} {R : Ending → World → Prop} {a : Act} {w : World} {p u : Tmp} {ty t : TypeId} {b : Nat} {C : Array Value} {d : TypeDesc}
/-- the end of a function whose one result is a struct in block b -/
theorem end_cell (h : fn.results = #[.cell p ty]) (hd0 : a.defers = []) (hp : a.tmps.getD p undef = .pointer (some ⟨b, 0, none⟩)) (hg : w.heap[b]? = some (.cells C t (0, 0)))
    (hu : P.underlying ty = some d) (hd : (match d with | .struct _ | .array _ _ => true | _ => false) = true) (hi : (P.info? ty).map (·.size) = some C.size)
    (hR : R (.returned (.agg C)) w) : bodyPost P fn R .ret a w := by
  refine bodyPost_ret (v := .agg C) ?_ hd0 hR
  have hp' : a.tmps[p]?.getD undef = .pointer (some ⟨b, 0, none⟩) := by simpa using hp
  simp only [results, h]
  simp [hp', asAddr, run_loadVar_row w b t ty C (0, 0) d hg hu hd hi]
/-- .. whose first result is a struct in block b -/
theorem end_cell_tmp (h : fn.results = #[.cell p ty, .tmp u]) (hd0 : a.defers = []) (hp : a.tmps.getD p undef = .pointer (some ⟨b, 0, none⟩)) (hg : w.heap[b]? = some (.cells C t (0, 0)))
    (hu : P.underlying ty = some d) (hd : (match d with | .struct _ | .array _ _ => true | _ => false) = true) (hi : (P.info? ty).map (·.size) = some C.size)
    (hR : R (.returned (.tuple #[.agg C, a.tmps.getD u undef])) w) : bodyPost P fn R .ret a w := by
  refine bodyPost_ret (v := .tuple #[.agg C, a.tmps.getD u undef]) ?_ hd0 hR
  rw [results_cell_tmp h, hp]
  simp [asAddr, run_loadVar_row w b t ty C (0, 0) d hg hu hd hi]
/-- .. whose second result is a struct in block b -/
theorem end_tmp_cell (h : fn.results = #[.tmp u, .cell p ty]) (hd0 : a.defers = []) (hp : a.tmps.getD p undef = .pointer (some ⟨b, 0, none⟩)) (hg : w.heap[b]? = some (.cells C t (0, 0)))
    (hu : P.underlying ty = some d) (hd : (match d with | .struct _ | .array _ _ => true | _ => false) = true) (hi : (P.info? ty).map (·.size) = some C.size)
    (hR : R (.returned (.tuple #[a.tmps.getD u undef, .agg C])) w) : bodyPost P fn R .ret a w := by
  refine bodyPost_ret (v := .tuple #[a.tmps.getD u undef, .agg C]) ?_ hd0 hR
  have hp' : a.tmps[p]?.getD undef = .pointer (some ⟨b, 0, none⟩) := by simpa using hp
  simp only [results, h]
  simp [hp', asAddr, run_loadVar_row w b t ty C (0, 0) d hg hu hd hi]
end

def stores (w : World) (b : Nat) : Nat → List Value → World
  | _, [] => w
  | k, v :: vs => stores (w.setCell ⟨b, k, none⟩ v) b (k + 1) vs
def setFrom (C : Array Value) : Nat → List Value → Array Value
  | _, [] => C
  | k, v :: vs => setFrom (C.setIfInBounds k v) (k + 1) vs
theorem setFrom_list : ∀ (vs : List Value) (k : Nat) (C : Array Value), C.size = k + vs.length → (setFrom C k vs).toList = C.toList.take k ++ vs
  | [], k, C, h => by
    rw [setFrom, List.append_nil, List.take_of_length_le (by simp at h; simp; omega)]
  | v :: vs, k, C, h => by
    rw [setFrom, setFrom_list vs (k + 1) _ (by simp at h ⊢; omega), Array.toList_setIfInBounds]
    have hk : k < C.toList.length := by simp at h; simp; omega
    rw [List.take_succ_eq_append_getElem (by simpa using hk), List.take_set_of_le (Nat.le_refl k)]
    simp
theorem stores_at : ∀ (vs : List Value) (k : Nat) (w : World) (b : Nat) (C : Array Value) (e : TypeId), w.heap[b]? = some (.cells C e (0, 0)) → (stores w b k vs).heap[b]? = some (.cells (setFrom C k vs) e (0, 0))
  | [], _, _, _, _, _, h => h
  | _ :: vs, k, _, b, _, e, h => stores_at vs (k + 1) _ b _ e (setCell_at h)
theorem stores_all {w : World} {b : Nat} {C : Array Value} {e : TypeId} (vs : List Value) (h : w.heap[b]? = some (.cells C e (0, 0))) (hC : C.size = vs.length) : (stores w b 0 vs).heap[b]? = some (.cells vs.toArray e (0, 0)) := by
  rw [stores_at vs 0 w b C e h]
  have h1 := setFrom_list vs 0 C (by omega)
  have h2 : setFrom C 0 vs = vs.toArray := by
    apply Array.ext'
    simpa using h1
  rw [h2]
theorem store1 {w : World} {b : Nat} {C : Array Value} {e : TypeId} {v0 : Value} (h : w.heap[b]? = some (.cells C e (0, 0))) (hC : C.size = 1) :
    (w.setCell ⟨b, 0, none⟩ v0).heap[b]? = some (.cells #[v0] e (0, 0)) := stores_all [v0] h hC
theorem store2 {w : World} {b : Nat} {C : Array Value} {e : TypeId} {v0 v1 : Value} (h : w.heap[b]? = some (.cells C e (0, 0))) (hC : C.size = 2) :
    ((w.setCell ⟨b, 0, none⟩ v0).setCell ⟨b, 1, none⟩ v1).heap[b]? = some (.cells #[v0, v1] e (0, 0)) := stores_all [v0, v1] h hC
theorem store3 {w : World} {b : Nat} {C : Array Value} {e : TypeId} {v0 v1 v2 : Value} (h : w.heap[b]? = some (.cells C e (0, 0))) (hC : C.size = 3) :
    (((w.setCell ⟨b, 0, none⟩ v0).setCell ⟨b, 1, none⟩ v1).setCell ⟨b, 2, none⟩ v2).heap[b]? = some (.cells #[v0, v1, v2] e (0, 0)) := stores_all [v0, v1, v2] h hC
theorem store4 {w : World} {b : Nat} {C : Array Value} {e : TypeId} {v0 v1 v2 v3 : Value} (h : w.heap[b]? = some (.cells C e (0, 0))) (hC : C.size = 4) :
    ((((w.setCell ⟨b, 0, none⟩ v0).setCell ⟨b, 1, none⟩ v1).setCell ⟨b, 2, none⟩ v2).setCell ⟨b, 3, none⟩ v3).heap[b]? = some (.cells #[v0, v1, v2, v3] e (0, 0)) := stores_all [v0, v1, v2, v3] h hC
theorem store5 {w : World} {b : Nat} {C : Array Value} {e : TypeId} {v0 v1 v2 v3 v4 : Value} (h : w.heap[b]? = some (.cells C e (0, 0))) (hC : C.size = 5) :
    (((((w.setCell ⟨b, 0, none⟩ v0).setCell ⟨b, 1, none⟩ v1).setCell ⟨b, 2, none⟩ v2).setCell ⟨b, 3, none⟩ v3).setCell ⟨b, 4, none⟩ v4).heap[b]? = some (.cells #[v0, v1, v2, v3, v4] e (0, 0)) := stores_all [v0, v1, v2, v3, v4] h hC
theorem store6 {w : World} {b : Nat} {C : Array Value} {e : TypeId} {v0 v1 v2 v3 v4 v5 : Value} (h : w.heap[b]? = some (.cells C e (0, 0))) (hC : C.size = 6) :
    ((((((w.setCell ⟨b, 0, none⟩ v0).setCell ⟨b, 1, none⟩ v1).setCell ⟨b, 2, none⟩ v2).setCell ⟨b, 3, none⟩ v3).setCell ⟨b, 4, none⟩ v4).setCell ⟨b, 5, none⟩ v5).heap[b]? = some (.cells #[v0, v1, v2, v3, v4, v5] e (0, 0)) := stores_all [v0, v1, v2, v3, v4, v5] h hC
theorem store7 {w : World} {b : Nat} {C : Array Value} {e : TypeId} {v0 v1 v2 v3 v4 v5 v6 : Value} (h : w.heap[b]? = some (.cells C e (0, 0))) (hC : C.size = 7) :
    (((((((w.setCell ⟨b, 0, none⟩ v0).setCell ⟨b, 1, none⟩ v1).setCell ⟨b, 2, none⟩ v2).setCell ⟨b, 3, none⟩ v3).setCell ⟨b, 4, none⟩ v4).setCell ⟨b, 5, none⟩ v5).setCell ⟨b, 6, none⟩ v6).heap[b]? = some (.cells #[v0, v1, v2, v3, v4, v5, v6] e (0, 0)) := stores_all [v0, v1, v2, v3, v4, v5, v6] h hC
theorem store8 {w : World} {b : Nat} {C : Array Value} {e : TypeId} {v0 v1 v2 v3 v4 v5 v6 v7 : Value} (h : w.heap[b]? = some (.cells C e (0, 0))) (hC : C.size = 8) :
    ((((((((w.setCell ⟨b, 0, none⟩ v0).setCell ⟨b, 1, none⟩ v1).setCell ⟨b, 2, none⟩ v2).setCell ⟨b, 3, none⟩ v3).setCell ⟨b, 4, none⟩ v4).setCell ⟨b, 5, none⟩ v5).setCell ⟨b, 6, none⟩ v6).setCell ⟨b, 7, none⟩ v7).heap[b]? = some (.cells #[v0, v1, v2, v3, v4, v5, v6, v7] e (0, 0)) := stores_all [v0, v1, v2, v3, v4, v5, v6, v7] h hC
theorem store9 {w : World} {b : Nat} {C : Array Value} {e : TypeId} {v0 v1 v2 v3 v4 v5 v6 v7 v8 : Value} (h : w.heap[b]? = some (.cells C e (0, 0))) (hC : C.size = 9) :
    (((((((((w.setCell ⟨b, 0, none⟩ v0).setCell ⟨b, 1, none⟩ v1).setCell ⟨b, 2, none⟩ v2).setCell ⟨b, 3, none⟩ v3).setCell ⟨b, 4, none⟩ v4).setCell ⟨b, 5, none⟩ v5).setCell ⟨b, 6, none⟩ v6).setCell ⟨b, 7, none⟩ v7).setCell ⟨b, 8, none⟩ v8).heap[b]? = some (.cells #[v0, v1, v2, v3, v4, v5, v6, v7, v8] e (0, 0)) := stores_all [v0, v1, v2, v3, v4, v5, v6, v7, v8] h hC
theorem store10 {w : World} {b : Nat} {C : Array Value} {e : TypeId} {v0 v1 v2 v3 v4 v5 v6 v7 v8 v9 : Value} (h : w.heap[b]? = some (.cells C e (0, 0))) (hC : C.size = 10) :
    ((((((((((w.setCell ⟨b, 0, none⟩ v0).setCell ⟨b, 1, none⟩ v1).setCell ⟨b, 2, none⟩ v2).setCell ⟨b, 3, none⟩ v3).setCell ⟨b, 4, none⟩ v4).setCell ⟨b, 5, none⟩ v5).setCell ⟨b, 6, none⟩ v6).setCell ⟨b, 7, none⟩ v7).setCell ⟨b, 8, none⟩ v8).setCell ⟨b, 9, none⟩ v9).heap[b]? = some (.cells #[v0, v1, v2, v3, v4, v5, v6, v7, v8, v9] e (0, 0)) := stores_all [v0, v1, v2, v3, v4, v5, v6, v7, v8, v9] h hC
theorem store11 {w : World} {b : Nat} {C : Array Value} {e : TypeId} {v0 v1 v2 v3 v4 v5 v6 v7 v8 v9 v10 : Value} (h : w.heap[b]? = some (.cells C e (0, 0))) (hC : C.size = 11) :
    (((((((((((w.setCell ⟨b, 0, none⟩ v0).setCell ⟨b, 1, none⟩ v1).setCell ⟨b, 2, none⟩ v2).setCell ⟨b, 3, none⟩ v3).setCell ⟨b, 4, none⟩ v4).setCell ⟨b, 5, none⟩ v5).setCell ⟨b, 6, none⟩ v6).setCell ⟨b, 7, none⟩ v7).setCell ⟨b, 8, none⟩ v8).setCell ⟨b, 9, none⟩ v9).setCell ⟨b, 10, none⟩ v10).heap[b]? = some (.cells #[v0, v1, v2, v3, v4, v5, v6, v7, v8, v9, v10] e (0, 0)) := stores_all [v0, v1, v2, v3, v4, v5, v6, v7, v8, v9, v10] h hC
theorem store12 {w : World} {b : Nat} {C : Array Value} {e : TypeId} {v0 v1 v2 v3 v4 v5 v6 v7 v8 v9 v10 v11 : Value} (h : w.heap[b]? = some (.cells C e (0, 0))) (hC : C.size = 12) :
    ((((((((((((w.setCell ⟨b, 0, none⟩ v0).setCell ⟨b, 1, none⟩ v1).setCell ⟨b, 2, none⟩ v2).setCell ⟨b, 3, none⟩ v3).setCell ⟨b, 4, none⟩ v4).setCell ⟨b, 5, none⟩ v5).setCell ⟨b, 6, none⟩ v6).setCell ⟨b, 7, none⟩ v7).setCell ⟨b, 8, none⟩ v8).setCell ⟨b, 9, none⟩ v9).setCell ⟨b, 10, none⟩ v10).setCell ⟨b, 11, none⟩ v11).heap[b]? = some (.cells #[v0, v1, v2, v3, v4, v5, v6, v7, v8, v9, v10, v11] e (0, 0)) := stores_all [v0, v1, v2, v3, v4, v5, v6, v7, v8, v9, v10, v11] h hC
end Go.Proofs.YtndpcphmndfajaaGreatDoor

namespace Go.Proofs.YtndpcphmndfajaaGreatDoor
open Go.RowKit
set_option linter.unusedVariables false

/-- texts that lie in a slice's cells -/
def StrsAt (w : World) (a : Option Addr) (n : Nat) (ps : List (List UInt8)) : Prop :=
  ps.length = n ∧ (n = 0 ∨ ∃ b off, a = some ⟨b, off, none⟩ ∧ b < w.heap.size ∧ ∀ i (h : i < ps.length), w.cell? ⟨b, off + i, none⟩ = some (.string ⟨ps[i].toArray⟩))

theorem StrsAt.one (w : World) (l : List UInt8) (T : TypeId) : StrsAt (w.alloc (.cells #[.string ⟨l.toArray⟩] T)) (some ⟨w.heap.size, 0, none⟩) 1 [l] := by
  refine ⟨rfl, .inr ⟨_, _, rfl, by simp, ?_⟩⟩
  intro i h
  obtain rfl : i = 0 := by simpa using h
  exact cell_at (at_a0 _ _ _)
theorem StrsAt.two (w : World) (l m : List UInt8) (T : TypeId) : StrsAt (w.alloc (.cells #[.string ⟨l.toArray⟩, .string ⟨m.toArray⟩] T)) (some ⟨w.heap.size, 0, none⟩) 2 [l, m] := by
  refine ⟨rfl, .inr ⟨_, _, rfl, by simp, ?_⟩⟩
  intro i h
  match i, h with
  | 0, _ => exact cell_at (at_a0 _ _ _)
  | 1, _ => exact cell_at (at_a0 _ _ _)

theorem StrsAt.below {w w' : World} {a : Option Addr} {n : Nat} {ps : List (List UInt8)} (h : StrsAt w a n ps) (hb : Below w.heap.size w w') : StrsAt w' a n ps := by
  refine ⟨h.1, ?_⟩
  rcases h.2 with h0 | ⟨b, off, rfl, hlt, hc⟩
  · exact .inl h0
  · exact .inr ⟨b, off, rfl, Nat.lt_of_lt_of_le hlt hb.size, fun i h => by rw [hb.cell (by exact hlt)]; exact hc i h⟩
set_option maxRecDepth 100000 in
/-- a slice of texts that came in -/
theorem open_strs {H : Type} {enc : TypeId × Value → H} {w : World} {base : Nat} {spare : Nat → Bool} {held : Bool} {v : Value} {d : DataW H} {p : List MemPlace} {r : Reach} {b0 : Nat}
    (hv : Value.okWide Tryz.prog w r b0 100 v) (h : DataW.Trod enc Tryz.prog w base spare held 100 v d p) :
    ∃ (a : Option Addr) (n cap : Nat) (ps : List (List UInt8)), v = .slice a n cap ∧ StrsAt w a n ps ∧ n ≤ cap ∧ n ≤ maxLen ∧ ∀ p ∈ ps, p.length ≤ maxLen := by
  obtain ⟨sa, sl, sc, rfl⟩ := Go.WideShapes.okWide_slice Tryz.underlying100 hv
  obtain ⟨fuel, hf⟩ := h
  have hlt := DataW.trod_lt _ _ _ _ hf
  rcases Go.ChangeShapes.open_strings Tryz.underlying100 Tryz.underlying9 (by kernel_rfl) hf with ⟨hc, hx⟩ | ⟨a, len, cap, ss, hc, hb, hl, hcap, hss, hx, hi, hsz⟩
  · obtain ⟨rfl, rfl, rfl⟩ : sa = none ∧ sl = 0 ∧ sc = 0 := by simpa [Value.cells] using hc
    exact ⟨none, 0, 0, [], rfl, ⟨rfl, .inl rfl⟩, Nat.le_refl _, by decide, by simp⟩
  · obtain ⟨rfl, rfl, rfl⟩ : sa = some a ∧ sl = len ∧ sc = cap := by simpa [Value.cells] using hc
    have hlm : sl ≤ ss.length := by rw [hss]; split <;> omega
    refine ⟨some a, sl, sc, (ss.take sl).map fun b => b.data.toList, rfl, ⟨by simp; omega, ?_⟩, hl, by omega, ?_⟩
    · by_cases h0 : sl = 0
      · exact .inl h0
      right
      have hz : a.block < w.heap.size := by
        refine hlt (.cell a.block (a.off + 0)) ?_
        rw [hx]
        exact MemPlace.mem_row.2 ⟨0, by omega, rfl⟩
      obtain ⟨b, off, spot⟩ := a
      have hspot : spot = none := by simpa [Addr.add] using World.cell?_spot (hi 0 (by omega))
      subst hspot
      refine ⟨b, off, rfl, hz, ?_⟩
      intro i h
      have hil : i < sl := by simp at h; omega
      have hc := hi i (by omega)
      rw [Go.WideShapes.add_plain] at hc
      rw [hc]
      have : i < ss.length := by omega
      simp [List.getD_eq_getElem?_getD, this]
    · intro p hp
      obtain ⟨b, hb, rfl⟩ := List.mem_map.1 hp
      have := hsz b (List.mem_of_mem_take hb)
      rw [Array.length_toList]
      exact this

theorem flat_take (ps : List (List UInt8)) (k : Nat) (h : k < ps.length) : (ps.take (k + 1)).flatten = (ps.take k).flatten ++ ps[k] := by
  rw [List.take_succ_eq_append_getElem h, List.flatten_append]; simp [-List.flatten_append]

theorem flat_len (ps : List (List UInt8)) (m : Nat) (h : ∀ p ∈ ps, p.length ≤ m) : ps.flatten.length ≤ m * ps.length := by
  induction ps with
  | nil => simp
  | cons p ps ih =>
    have h1 := h p List.mem_cons_self
    have h2 := ih fun q hq => h q (List.mem_cons_of_mem _ hq)
    rw [List.flatten_cons, List.length_append, List.length_cons, Nat.mul_succ]
    omega


theorem join_flat (ps : List (List UInt8)) : Lib.join ps [] = ps.flatten := by
  cases ps with
  | nil => rfl
  | cons x r => rw [Lib.join_cons]; simp [Lib.joinTail]

set_option maxRecDepth 100000 in
theorem octJoin_any (a : Option Addr) (n cap : Nat) (ps : List (List UInt8)) (w : World) (h : StrsAt w a n ps) (hcap : n ≤ cap) (hn : n ≤ 1000000000) (hs : ps.flatten.length ≤ 1000000000) :
    Calls Tryz.prog 60 #[.slice a n cap] w fun e w' => e = .returned (.string ⟨ps.flatten.toArray⟩) ∧ Below w.heap.size w w' := by
  have key : Calls Tryz.prog 132 #[.slice a n cap, .string ⟨#[]⟩] w fun e w' => e = .returned (.string ⟨ps.flatten.toArray⟩) ∧ Below w.heap.size w w' := by
    obtain ⟨hl, h⟩ := h
    rcases h with rfl | ⟨b, off, rfl, hb, hc⟩
    · obtain rfl : ps = [] := List.eq_nil_of_length_eq_zero hl
      exact (Tryz.strings_Join_none a cap ⟨#[]⟩ w).mono fun e w' ⟨he, hw⟩ => ⟨he, hw ▸ Below.refl _ _⟩
    · have e1 : (ps.map fun p => (⟨p.toArray⟩ : ByteArray)).map (·.data.toList) = ps := by rw [List.map_map]; exact (List.map_congr_left (g := id) (fun p _ => rfl)).trans (List.map_id _)
      have e2 : (ps.map fun p => (⟨p.toArray⟩ : ByteArray)).length = n := by simpa using hl
      have e3 : (⟨#[]⟩ : ByteArray).data.toList = [] := rfl
      have k := Tryz.strings_Join b off cap (ps.map fun p => ⟨p.toArray⟩) ⟨#[]⟩ w (by
        intro j x hx
        rw [List.getElem?_map] at hx
        obtain ⟨p, hp, rfl⟩ := Option.map_eq_some_iff.1 hx
        obtain ⟨hj, rfl⟩ := List.getElem?_eq_some_iff.1 hp
        exact hc j hj) hb (by rw [e2]; omega) (by rw [e2]; exact hcap) (by rw [e1, e3, join_flat]; omega)
      rw [e1, e2, e3, join_flat] at k
      exact k
  have H := Lib.hid key
  clear key h
  go_enter Tryz.func60, Tryz.ntmps60
  go_wp2_with (go_at_call 132; refine H.out.mono ?_; rintro e w1 ⟨rfl, hb1⟩)
  go_ret
  exact ⟨rfl, hb1⟩
end Go.Proofs.YtndpcphmndfajaaGreatDoor

namespace Go.Proofs.YtndpcphmndfajaaGreatDoor
open Go.RowKit
set_option linter.unusedVariables false

/-- a slice value that owns a row of records which the call itself made -/
def Recs (w : World) (base e size : Nat) (v : Value) (L : List (List Value)) : Prop := (∀ r ∈ L, r.length = size) ∧ w.ownsRow base e size v L.length L.flatten
theorem flat_size {L : List (List Value)} {size : Nat} (h : ∀ r ∈ L, r.length = size) : L.flatten.length = L.length * size := by
  induction L with
  | nil => simp
  | cons r L ih =>
    rw [List.flatten_cons, List.length_append, List.length_cons, ih fun q hq => h q (List.mem_cons_of_mem _ hq), h r List.mem_cons_self, Nat.succ_mul]
    omega
theorem flat_get {L : List (List Value)} {size : Nat} (h : ∀ r ∈ L, r.length = size) (i j : Nat) (hi : i < L.length) (hj : j < size) : L.flatten[i * size + j]? = L[i][j]? := by
  induction L generalizing i with
  | nil => simp at hi
  | cons r L ih =>
    have hr := h r List.mem_cons_self
    rw [List.flatten_cons]
    rcases i with _ | i
    · rw [Nat.zero_mul, Nat.zero_add, List.getElem?_append_left (by omega)]; rfl
    · rw [List.getElem?_append_right (by rw [hr, Nat.succ_mul]; omega), hr]
      have e : (i + 1) * size + j - size = i * size + j := by rw [Nat.succ_mul]; omega
      rw [e]
      exact ih (fun q hq => h q (List.mem_cons_of_mem _ hq)) i (by simpa using hi)
theorem Recs.nil (w : World) (base e size : Nat) : Recs w base e size (.slice none 0 0) [] := ⟨by simp, World.ownsRow_nil _ _ _ _⟩
theorem Recs.kept {w w' : World} {base e size : Nat} {v : Value} {L : List (List Value)} {row : Option Nat} (h : Recs w base e size v L) (hg : w.grownBy w' row) (hne : v.ownBlock = none ∨ v.ownBlock ≠ row) : Recs w' base e size v L :=
  ⟨h.1, World.ownsRow.kept h.2 hg hne⟩
theorem Recs.below {w w' : World} {base e size : Nat} {v : Value} {L : List (List Value)} (h : Recs w base e size v L) (hb : Below w.heap.size w w') : Recs w' base e size v L := by
  refine ⟨h.1, h.2.1, ?_⟩
  rcases h.2.2 with hn | ⟨g, cap, cur, hv, hbs, hg, rest⟩
  · exact .inl hn
  · exact .inr ⟨g, cap, cur, hv, hbs, (hb.block g (Array.getElem?_eq_some_iff.1 hg).1).trans hg, rest⟩
theorem Recs.alloc {w : World} {base e size : Nat} {v : Value} {L : List (List Value)} (h : Recs w base e size v L) (o : Obj) : Recs (w.alloc o) base e size v L := ⟨h.1, World.ownsRow.alloc h.2 o⟩
theorem Recs.base {w : World} {base b2 e size : Nat} {v : Value} {L : List (List Value)} (h : Recs w base e size v L) (hb : b2 ≤ base) : Recs w b2 e size v L := by
  refine ⟨h.1, h.2.1, ?_⟩
  rcases h.2.2 with hn | ⟨g, cap, cur, hv, hbs, rest⟩
  · exact .inl hn
  · exact .inr ⟨g, cap, cur, hv, Nat.le_trans hb hbs, rest⟩
theorem Recs.lt {w : World} {base e size : Nat} {v : Value} {L : List (List Value)} (h : Recs w base e size v L) : ∀ k, v.ownBlock = some k → base ≤ k ∧ k < w.heap.size := World.ownsRow.lt h.2
/-- as a reader meets it: records in cells (nil, or a row) -/
def RecsAt (w : World) (a : Option Addr) (n size : Nat) (L : List (List Value)) : Prop :=
  L.length = n ∧ (∀ r ∈ L, r.length = size) ∧ (n = 0 ∨ ∃ b off, a = some ⟨b, off, none⟩ ∧ b < w.heap.size ∧ ∀ i (h : i < L.length) j, j < size → w.cell? ⟨b, off + (i * size + j), none⟩ = L[i][j]?)
theorem RecsAt.below {w w' : World} {a : Option Addr} {n size : Nat} {L : List (List Value)} (h : RecsAt w a n size L) (hb : Below w.heap.size w w') : RecsAt w' a n size L := by
  refine ⟨h.1, h.2.1, ?_⟩
  rcases h.2.2 with h0 | ⟨b, off, rfl, hlt, hc⟩
  · exact .inl h0
  · exact .inr ⟨b, off, rfl, Nat.lt_of_lt_of_le hlt hb.size, fun i h j hj => by rw [hb.cell (by exact hlt)]; exact hc i h j hj⟩
theorem Recs.view {w : World} {base e size : Nat} {v : Value} {L : List (List Value)} (h : Recs w base e size v L) :
    ∃ a cap, v = .slice a L.length cap ∧ L.length ≤ cap ∧ (L.length = 0 ∨ ∃ g, a = some ⟨g, 0, none⟩ ∧ base ≤ g ∧ g < w.heap.size ∧ ∀ i (h : i < L.length) j, j < size → w.cell? ⟨g, i * size + j, none⟩ = L[i][j]?) := by
  have h2 := h.2
  rcases h.2.2 with ⟨rfl, h0⟩ | ⟨g, cap, cur, rfl, hb, hg, hn, hc, hcs, ht⟩
  · exact ⟨none, 0, by rw [h0], by omega, .inl h0⟩
  · refine ⟨some ⟨g, 0, none⟩, cap, rfl, hn, .inr ⟨g, rfl, hb, (Array.getElem?_eq_some_iff.1 hg).1, fun i hi j hj => ?_⟩⟩
    have hlt : i * size + j < L.length * size := by
      have : (i + 1) * size ≤ L.length * size := Nat.mul_le_mul_right _ hi
      rw [Nat.succ_mul] at this
      omega
    rw [World.ownsRow.cellAt h2 _ hlt]
    exact flat_get h.1 i j hi hj
theorem Recs.at {w : World} {base e size : Nat} {v : Value} {L : List (List Value)} (h : Recs w base e size v L) :
    ∃ a cap, v = .slice a L.length cap ∧ L.length ≤ cap ∧ RecsAt w a L.length size L := by
  obtain ⟨a, cap, hv, hc, hr⟩ := h.view
  refine ⟨a, cap, hv, hc, rfl, h.1, ?_⟩
  rcases hr with h0 | ⟨g, ha, hb, hg, hcell⟩
  · exact .inl h0
  · exact .inr ⟨g, 0, ha, hg, fun i hi j hj => by rw [Nat.zero_add]; exact hcell i hi j hj⟩

/-- 'l = append(l, one)', l made by the call itself, one a record of 'size' cells -/
theorem wpList_pushR {P : Program} (wr : World) {ops : Array Oper} {rest : List Oper} {o : Oper} {a : Act} {Q : Exit → Act → World → Prop} (hgd : o.guard = none) (s x : Operand) (t : TypeId)
    (ho : o.op = .call { callee := .builtin .append, args := #[s, x], argTypes := #[t, t] })
    (base e size bytes : Nat) (z : Value) (ht : P.underlying t = some (.slice e)) (hinfo : (P.info? e).map (fun i => (i.zero, i.size, i.bytes)) = some (some z, size, bytes)) (hzs : z.cells.size = size) (hsz : 0 < size) (hby : bytes ≤ 1000)
    (v : Value) (L : List (List Value)) (r : List Value) (C : Array Value) (hC : C = r.toArray) (hr : r.length = size) (h1 : ∀ u ∈ r, u.oneCell' = true) (hs : a.eval s = v) (hbuf : Recs wr base e size v L) (hx : a.eval x = .slice (some ⟨wr.heap.size, 0, none⟩) 1 1)
    (hlen : L.length ≤ 1000000000) (hbase : base ≤ wr.heap.size) (E : TypeId)
    (h : ∀ v' w', Recs w' base e size v' (L ++ [r]) → wr.grownBy w' v.ownBlock → wpList P ops Q rest (a.put o.dst v') w') :
    wpList P ops Q (o :: rest) a (wr.alloc (.cells C E)) := by
  obtain ⟨i, hi, hz0, hz1, hz2⟩ := info_parts hinfo
  subst hC
  refine wpList_append_own _ hgd s x t ho base e i z size bytes ht hi hz0 hz1 hz2 hzs hsz v L.length L.flatten hs (World.ownsRow.alloc hbuf.2 _) ⟨wr.heap.size, 0, none⟩ 1 1 r hx (by omega) ?_ h1 ?_ ?_ ?_ ?_
  · intro j u hj
    have : ((⟨wr.heap.size, 0, none⟩ : Addr).add j) = ⟨wr.heap.size, j, none⟩ := by rw [Go.WideShapes.add_plain, Nat.zero_add]
    rw [this, cell_at (at_a0 _ _ _)]
    simpa using hj
  · unfold maxLen; omega
  · have : (L.length + 1) * bytes ≤ 1000000001 * 1000 := Nat.mul_le_mul (by omega) hby
    omega
  · simp; omega
  · intro v' w' hown hg _
    refine h v' w' ⟨?_, ?_⟩ ⟨hg.os, hg.tape, hg.output, by have := hg.size; simp at this; omega, fun k hk hne => (hg.block k (by simp; omega) hne).trans (heap_alloc_old wr _ hk)⟩
    · intro q hq
      rcases List.mem_append.1 hq with hq | hq
      · exact hbuf.1 q hq
      · obtain rfl : q = r := by simpa using hq
        exact hr
    · rw [List.flatten_append, List.length_append]
      simpa using hown
theorem push_core {P : Program} (wr : World) (t ty : TypeId) (base e size bytes : Nat) (z : Value) (ht : P.underlying t = some (.slice e)) (hinfo : (P.info? e).map (fun i => (i.zero, i.size, i.bytes)) = some (some z, size, bytes)) (hzs : z.cells.size = size) (hsz : 0 < size) (hby : bytes ≤ 1000)
    (v : Value) (L : List (List Value)) (r : List Value) (hr : r.length = size) (h1 : ∀ u ∈ r, u.oneCell' = true) (hbuf : Recs wr base e size v L) (hlen : L.length ≤ 1000000000) (hbase : base ≤ wr.heap.size) (E : TypeId) :
    ∃ v' w', (Builtin.append_ #[t, t] ty #[v, .slice (some ⟨wr.heap.size, 0, none⟩) 1 1]).run P (wr.alloc (.cells r.toArray E)) = .ok v' w' ∧ Recs w' base e size v' (L ++ [r]) ∧ wr.grownBy w' v.ownBlock := by
  obtain ⟨i, hi, hz0, hz1, hz2⟩ := info_parts hinfo
  obtain ⟨v', w', hrun, hown, hg, _⟩ := run_append_own (P := P) (w := wr.alloc (.cells r.toArray E)) base t ty e i z size bytes ht hi hz0 hz1 hz2 hzs hsz v L.length L.flatten (World.ownsRow.alloc hbuf.2 _) ⟨wr.heap.size, 0, none⟩ 1 1 r (by omega) (by
    intro j u hj
    have : ((⟨wr.heap.size, 0, none⟩ : Addr).add j) = ⟨wr.heap.size, j, none⟩ := by rw [Go.WideShapes.add_plain, Nat.zero_add]
    rw [this, cell_at (at_a0 _ _ _)]
    simpa using hj) h1 (by unfold maxLen; omega) (by have : (L.length + 1) * bytes ≤ 1000000001 * 1000 := Nat.mul_le_mul (by omega) hby
                                                     omega) (by simp; omega)
  refine ⟨v', w', hrun, ⟨?_, ?_⟩, ⟨hg.os, hg.tape, hg.output, by have := hg.size; simp at this; omega, fun k hk hne => (hg.block k (by simp; omega) hne).trans (heap_alloc_old wr _ hk)⟩⟩
  · intro q hq
    rcases List.mem_append.1 hq with hq | hq
    · exact hbuf.1 q hq
    · obtain rfl : q = r := by simpa using hq
      exact hr
  · rw [List.flatten_append, List.length_append]
    simpa using hown
/-- .. as a step of a region that draws its order -/
theorem step_pushR {P : Program} (wr : World) {ops : Array Oper} {o : Oper} {a : Act} {K : Act → World → Prop} {Q : Exit → Act → World → Prop} {E0 : Prop} (hgd : o.guard = none) (s x : Operand) (t : TypeId)
    (ho : o.op = .call { callee := .builtin .append, args := #[s, x], argTypes := #[t, t] })
    (base e size bytes : Nat) (z : Value) (ht : P.underlying t = some (.slice e)) (hinfo : (P.info? e).map (fun i => (i.zero, i.size, i.bytes)) = some (some z, size, bytes)) (hzs : z.cells.size = size) (hsz : 0 < size) (hby : bytes ≤ 1000)
    (v : Value) (L : List (List Value)) (r : List Value) (C : Array Value) (hC : C = r.toArray) (hr : r.length = size) (h1 : ∀ u ∈ r, u.oneCell' = true) (hs : a.eval s = v) (hbuf : Recs wr base e size v L) (hx : a.eval x = .slice (some ⟨wr.heap.size, 0, none⟩) 1 1)
    (hlen : L.length ≤ 1000000000) (hbase : base ≤ wr.heap.size) (E : TypeId)
    (h : ∀ v' w', Recs w' base e size v' (L ++ [r]) → wr.grownBy w' v.ownBlock → K (a.put o.dst v') w') :
    if Region.wanted o (yielded ops a.tmps) = true then Oper.wp P o a (wr.alloc (.cells C E)) K Q else E0 := by
  have hw : Region.wanted o (yielded ops a.tmps) = true := by simp [Region.wanted, hgd]
  rw [if_pos hw]
  subst hC
  obtain ⟨v', w', hrun, h2, h3⟩ := push_core wr t o.type base e size bytes z ht hinfo hzs hsz hby v L r hr h1 hbuf hlen hbase E
  unfold Oper.wp
  simp only [execOp, ho, resolve, invoke, builtin, Sem.run_bind, Sem.run_pure, Result.andThen_ok, List.map_toArray, List.map_cons, List.map_nil, hs, hx, hrun]
  exact h _ _ h2 h3
theorem grown_below {w wr w' : World} {v : Value} (hB : Below w.heap.size w wr) (hg : wr.grownBy w' v.ownBlock) (hv : ∀ k, v.ownBlock = some k → w.heap.size ≤ k) : Below w.heap.size w w' := by
  refine ⟨hg.os.trans hB.os, hg.tape.trans hB.tape, hg.output.trans hB.output, Nat.le_trans hB.size hg.size, fun k hk => ?_⟩
  refine (hg.block k (Nat.lt_of_lt_of_le hk hB.size) ?_).trans (hB.block k hk)
  intro e
  have := hv k e.symm
  omega
end Go.Proofs.YtndpcphmndfajaaGreatDoor

namespace Go.Proofs.YtndpcphmndfajaaGreatDoor
open Go.RowKit
set_option linter.unusedVariables false

structure Ln where
  t : List UInt8
  e : List UInt8
  a : Nat
def lnR (x : Ln) : List Value := [.string ⟨x.t.toArray⟩, .string ⟨x.e.toArray⟩, .int .i64 x.a]
/-- no line's end -/
def inl (c : UInt8) : Bool := c != 10 && c != 13
def endOf : List UInt8 → List UInt8
  | 13 :: 10 :: _ => [13, 10]
  | c :: _ => [c]
  | [] => []
def lineAt (l : List UInt8) : List UInt8 := l.takeWhile inl
def lines : Nat → List UInt8 → Nat → List Ln
  | 0, _, _ => []
  | f + 1, l, at' => if l = [] then [] else
    ⟨lineAt l, endOf (l.drop (lineAt l).length), at'⟩ :: lines f (l.drop ((lineAt l).length + (endOf (l.drop (lineAt l).length)).length)) (at' + (lineAt l).length + (endOf (l.drop (lineAt l).length)).length)
theorem endOf_len (l : List UInt8) : (endOf l).length ≤ l.length ∧ (l ≠ [] → 0 < (endOf l).length) := by
  unfold endOf
  split <;> simp
theorem endOf_pre (l : List UInt8) : l = endOf l ++ l.drop (endOf l).length := by
  unfold endOf
  split <;> simp
theorem lineAt_pre (l : List UInt8) : l = lineAt l ++ l.drop (lineAt l).length := by
  unfold lineAt
  induction l with
  | nil => rfl
  | cons c l ih =>
    rw [List.takeWhile_cons]
    split
    · simp only [List.length_cons, List.drop_succ_cons, List.cons_append]; rw [← ih]
    · simp
theorem line_pos (l : List UInt8) (h : l ≠ []) : 0 < (lineAt l).length + (endOf (l.drop (lineAt l).length)).length := by
  by_cases h2 : l.drop (lineAt l).length = []
  · have := lineAt_pre l
    rw [h2, List.append_nil] at this
    have h3 : 0 < l.length := List.length_pos_iff.2 h
    rw [← this]
    omega
  · have := (endOf_len _).2 h2
    omega
theorem lines_fuel : ∀ (f : Nat) (l : List UInt8) (a : Nat), l.length ≤ f → ∀ g, l.length ≤ g → lines f l a = lines g l a
  | 0, l, a, h, g, hg => by
    obtain rfl : l = [] := List.eq_nil_of_length_eq_zero (by omega)
    cases g <;> simp [lines]
  | f + 1, l, a, h, g, hg => by
    cases g with
    | zero =>
      obtain rfl : l = [] := List.eq_nil_of_length_eq_zero (by omega)
      simp [lines]
    | succ g =>
      unfold lines
      by_cases hl : l = []
      · simp [hl]
      · rw [if_neg hl, if_neg hl]
        have := line_pos l hl
        congr 1
        refine lines_fuel f _ _ ?_ g ?_ <;> (rw [List.length_drop]; omega)
/-- the lines of a text -/
def linesOf (l : List UInt8) (a : Nat) : List Ln := lines l.length l a
theorem linesOf_nil (a : Nat) : linesOf [] a = [] := rfl
theorem linesOf_cons (l : List UInt8) (a : Nat) (h : l ≠ []) : linesOf l a = ⟨lineAt l, endOf (l.drop (lineAt l).length), a⟩ :: linesOf (l.drop ((lineAt l).length + (endOf (l.drop (lineAt l).length)).length)) (a + (lineAt l).length + (endOf (l.drop (lineAt l).length)).length) := by
  have hp := line_pos l h
  have hl : 0 < l.length := List.length_pos_iff.2 h
  unfold linesOf
  obtain ⟨n, hn⟩ : ∃ n, l.length = n + 1 := ⟨l.length - 1, by omega⟩
  rw [hn, lines, if_neg h]
  congr 1
  refine lines_fuel _ _ _ ?_ _ (Nat.le_refl _)
  rw [List.length_drop]; omega
/-- where the line that begins at k ends, if no end stands ahead of e -/
theorem lineAt_len (l : List UInt8) (n : Nat) (hn : n ≤ l.length) (h : ∀ i (hi : i < n), inl (l[i]'(by omega)) = true) (he : ∀ (hlt : n < l.length), inl l[n] = false) : lineAt l = l.take n := by
  induction n generalizing l with
  | zero =>
    cases l with
    | nil => rfl
    | cons c l => have := he (by simp); simp only [List.getElem_cons_zero] at this; simp [lineAt, this]
  | succ n ih =>
    cases l with
    | nil => simp at hn
    | cons c l =>
      have h0 := h 0 (by omega)
      simp only [List.getElem_cons_zero] at h0
      have hi := ih l (by simpa using hn) (fun i hi => by have := h (i + 1) (by omega); simpa using this) (fun hlt => by have := he (by simpa using hlt); simpa using this)
      unfold lineAt at hi ⊢
      rw [List.takeWhile_cons, if_pos h0, hi]; rfl
theorem lineAt_drop (t : List UInt8) (k e : Nat) (hke : k ≤ e) (he : e ≤ t.length) (h : ∀ i (hi : i < t.length), k ≤ i → i < e → inl t[i] = true) (hx : ∀ (hlt : e < t.length), inl t[e] = false) : lineAt (t.drop k) = (t.drop k).take (e - k) := by
  refine lineAt_len _ _ (by rw [List.length_drop]; omega) (fun i hi => ?_) (fun hlt => ?_)
  · rw [List.getElem_drop]; exact h _ _ (by omega) (by omega)
  · rw [List.getElem_drop]
    have e2 : k + (e - k) = e := by omega
    simp only [e2]
    exact hx (by rw [List.length_drop] at hlt; omega)
/-- what the lines are: each begins where those ahead of it end; together they are the text -/
def lnAll (L : List Ln) : List UInt8 := (L.map fun x => x.t ++ x.e).flatten
theorem lines_ok : ∀ (f : Nat) (l : List UInt8) (a : Nat), l.length ≤ f → lnAll (linesOf l a) = l ∧ ∀ k (h : k < (linesOf l a).length), (linesOf l a)[k].a = a + (lnAll ((linesOf l a).take k)).length
  | 0, l, a, h => by
    obtain rfl : l = [] := List.eq_nil_of_length_eq_zero (by omega)
    exact ⟨rfl, fun k hk => absurd hk (by simp [linesOf_nil])⟩
  | f + 1, l, a, h => by
    by_cases hl : l = []
    · subst hl
      exact ⟨rfl, fun k hk => absurd hk (by simp [linesOf_nil])⟩
    · have hp := line_pos l hl
      obtain ⟨i1, i2⟩ := lines_ok f (l.drop ((lineAt l).length + (endOf (l.drop (lineAt l).length)).length)) (a + (lineAt l).length + (endOf (l.drop (lineAt l).length)).length) (by rw [List.length_drop]; omega)
      rw [linesOf_cons l a hl]
      constructor
      · simp only [lnAll, List.map_cons, List.flatten_cons] at i1 ⊢
        rw [i1]
        have e1 := lineAt_pre l
        have e2 := endOf_pre (l.drop (lineAt l).length)
        rw [List.drop_drop] at e2
        rw [List.append_assoc, ← e2, ← e1]
      · intro k hk
        cases k with
        | zero => simp [lnAll]
        | succ k =>
          have := i2 k (by simpa using hk)
          simp only [List.getElem_cons_succ, List.take_succ_cons]
          rw [this]
          simp [lnAll]
          omega
def isDigit (c : UInt8) : Bool := decide (48 ≤ c.toNat ∧ c.toNat ≤ 57)
def isCap (c : UInt8) : Bool := isDigit c || decide (65 ≤ c.toNat ∧ c.toNat ≤ 90)
def digitsL (l : List UInt8) : Bool := l.all isDigit && !l.isEmpty
def capsL (l : List UInt8) : Bool := l.all isCap && !l.isEmpty
def likeB (c d : UInt8) : Bool := if d = 48 then isDigit c else c == d
def likeL (s f : List UInt8) : Bool := s.length == f.length && (s.zip f).all fun p => likeB p.1 p.2
end Go.Proofs.YtndpcphmndfajaaGreatDoor
