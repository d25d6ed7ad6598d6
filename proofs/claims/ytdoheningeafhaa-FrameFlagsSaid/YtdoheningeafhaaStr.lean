/- Laws on structs that lie in memory: what is there behind stores; a result that is a struct. -/
import Derived.Test.YtdoheningeafhaaRd
import Derived.Laws.ResultCell
import Derived.Laws.Rows
namespace Go.Proofs.Ytdoheningeafhaa
open Go.RowKit

attribute [go_sem] Nat.add_sub_cancel_left
theorem heap_set_other {w : World} {b c j : Nat} (v : Value) (h : b ≠ c) : (w.setCell ⟨c, j, none⟩ v).heap[b]? = w.heap[b]? := Below.heap_setCell w _ v b h
theorem at_a0 (w : World) (C : Array Value) (T : TypeId) : (w.alloc (.cells C T)).heap[w.heap.size]? = some (.cells C T (0, 0)) := heap_alloc_new _ _
theorem at_a1 (w : World) (C : Array Value) (T : TypeId) (o : Obj) : ((w.alloc (.cells C T)).alloc o).heap[w.heap.size]? = some (.cells C T (0, 0)) := by
  rw [heap_alloc_old _ o (by simp)]; exact heap_alloc_new _ _
theorem at_a2 (w : World) (C : Array Value) (T : TypeId) (o : Obj) : ((w.alloc o).alloc (.cells C T)).heap[w.heap.size + 1]? = some (.cells C T (0, 0)) := by
  have h := heap_alloc_new (w.alloc o) (.cells C T)
  simpa using h
theorem below_a1 {w w1 : World} {a : Obj} (h : Below (w.alloc a).heap.size (w.alloc a) w1) : Below w.heap.size w w1 := nextB ((Below.refl _ _).alloc (Nat.le_refl _) a) h
theorem below_a2 {w w1 : World} {a b : Obj} (h : Below ((w.alloc a).alloc b).heap.size ((w.alloc a).alloc b) w1) : Below w.heap.size w w1 := below_a1 (below_a1 h)
theorem below_a3 {w w1 : World} {a b c : Obj} (h : Below (((w.alloc a).alloc b).alloc c).heap.size (((w.alloc a).alloc b).alloc c) w1) : Below w.heap.size w w1 := below_a1 (below_a2 h)
theorem block_below {w w1 : World} {b : Nat} {o : Obj} (h : w.heap[b]? = some o) (hb : Below w.heap.size w w1) : w1.heap[b]? = some o := (hb.block b (Array.getElem?_eq_some_iff.1 h).1).trans h
theorem block_only {w w1 : World} {b c : Nat} {o : Obj} (h : w.heap[b]? = some o) (hb : Only c w w1) (hne : b ≠ c) : w1.heap[b]? = some o :=
  (hb.block b (Array.getElem?_eq_some_iff.1 h).1 (by intro e; exact hne (Option.some.inj e))).trans h

theorem InAt.alloc {T : TypeId} {w : World} {b : Nat} {m : Rd} (h : InAt T w b m) (o : Obj) : InAt T (w.alloc o) b m := (heap_alloc_old w o h.lt).trans h
section
variable {P : Program} {fn : Func} {R : Ending → World → Prop} {a : Act} {w : World} {p u : Tmp} {ty t : TypeId} {b : Nat} {C : Array Value} {d : TypeDesc}
/-- the end of a function whose one result is a struct in block b -/
theorem end_cell (h : fn.results = #[.cell p ty]) (hd0 : a.defers = []) (hp : a.tmps.getD p undef = .pointer (some ⟨b, 0, none⟩)) (hg : w.heap[b]? = some (.cells C t (0, 0)))
    (hu : P.underlying ty = some d) (hd : (match d with | .struct _ | .array _ _ => true | _ => false) = true) (hi : (P.info? ty).map (·.size) = some C.size)
    (hR : R (.returned (.agg C)) w) : bodyPost P fn R .ret a w := by
  refine bodyPost_ret (v := .agg C) ?_ hd0 hR
  have hp' : a.tmps[p]?.getD undef = .pointer (some ⟨b, 0, none⟩) := by simpa using hp
  simp only [results, h]
  simp [hp', asAddr, run_loadVar_row w b t ty C (0, 0) d hg hu hd hi]
/-- .. whose first result is a struct in block b -/
theorem end_cell_tmp (h : fn.results = #[.cell p ty, .tmp u]) (hd0 : a.defers = []) (hp : a.tmps.getD p undef = .pointer (some ⟨b, 0, none⟩)) (hg : w.heap[b]? = some (.cells C t (0, 0)))
    (hu : P.underlying ty = some d) (hd : (match d with | .struct _ | .array _ _ => true | _ => false) = true) (hi : (P.info? ty).map (·.size) = some C.size)
    (hR : R (.returned (.tuple #[.agg C, a.tmps.getD u undef])) w) : bodyPost P fn R .ret a w := by
  refine bodyPost_ret (v := .tuple #[.agg C, a.tmps.getD u undef]) ?_ hd0 hR
  rw [results_cell_tmp h, hp]
  simp [asAddr, run_loadVar_row w b t ty C (0, 0) d hg hu hd hi]
/-- .. whose second result is a struct in block b -/
theorem end_tmp_cell (h : fn.results = #[.tmp u, .cell p ty]) (hd0 : a.defers = []) (hp : a.tmps.getD p undef = .pointer (some ⟨b, 0, none⟩)) (hg : w.heap[b]? = some (.cells C t (0, 0)))
    (hu : P.underlying ty = some d) (hd : (match d with | .struct _ | .array _ _ => true | _ => false) = true) (hi : (P.info? ty).map (·.size) = some C.size)
    (hR : R (.returned (.tuple #[a.tmps.getD u undef, .agg C])) w) : bodyPost P fn R .ret a w := by
  refine bodyPost_ret (v := .tuple #[a.tmps.getD u undef, .agg C]) ?_ hd0 hR
  have hp' : a.tmps[p]?.getD undef = .pointer (some ⟨b, 0, none⟩) := by simpa using hp
  simp only [results, h]
  simp [hp', asAddr, run_loadVar_row w b t ty C (0, 0) d hg hu hd hi]
end

def stores (w : World) (b : Nat) : Nat → List Value → World
  | _, [] => w
  | k, v :: vs => stores (w.setCell ⟨b, k, none⟩ v) b (k + 1) vs
def setFrom (C : Array Value) : Nat → List Value → Array Value
  | _, [] => C
  | k, v :: vs => setFrom (C.setIfInBounds k v) (k + 1) vs
theorem setFrom_list : ∀ (vs : List Value) (k : Nat) (C : Array Value), C.size = k + vs.length → (setFrom C k vs).toList = C.toList.take k ++ vs
  | [], k, C, h => by
    rw [setFrom, List.append_nil, List.take_of_length_le (by simp at h; simp; omega)]
  | v :: vs, k, C, h => by
    rw [setFrom, setFrom_list vs (k + 1) _ (by simp at h ⊢; omega), Array.toList_setIfInBounds]
    have hk : k < C.toList.length := by simp at h; simp; omega
    rw [List.take_succ_eq_append_getElem (by simpa using hk), List.take_set_of_le (Nat.le_refl k)]
    simp
theorem stores_at : ∀ (vs : List Value) (k : Nat) (w : World) (b : Nat) (C : Array Value) (e : TypeId), w.heap[b]? = some (.cells C e (0, 0)) → (stores w b k vs).heap[b]? = some (.cells (setFrom C k vs) e (0, 0))
  | [], _, _, _, _, _, h => h
  | _ :: vs, k, _, b, _, e, h => stores_at vs (k + 1) _ b _ e (setCell_at h)
theorem stores_all {w : World} {b : Nat} {C : Array Value} {e : TypeId} (vs : List Value) (h : w.heap[b]? = some (.cells C e (0, 0))) (hC : C.size = vs.length) : (stores w b 0 vs).heap[b]? = some (.cells vs.toArray e (0, 0)) := by
  rw [stores_at vs 0 w b C e h]
  have h1 := setFrom_list vs 0 C (by omega)
  have h2 : setFrom C 0 vs = vs.toArray := by
    apply Array.ext'
    simpa using h1
  rw [h2]
theorem store1 {w : World} {b : Nat} {C : Array Value} {e : TypeId} {v0 : Value} (h : w.heap[b]? = some (.cells C e (0, 0))) (hC : C.size = 1) :
    (w.setCell ⟨b, 0, none⟩ v0).heap[b]? = some (.cells #[v0] e (0, 0)) := stores_all [v0] h hC
theorem store2 {w : World} {b : Nat} {C : Array Value} {e : TypeId} {v0 v1 : Value} (h : w.heap[b]? = some (.cells C e (0, 0))) (hC : C.size = 2) :
    ((w.setCell ⟨b, 0, none⟩ v0).setCell ⟨b, 1, none⟩ v1).heap[b]? = some (.cells #[v0, v1] e (0, 0)) := stores_all [v0, v1] h hC
theorem store3 {w : World} {b : Nat} {C : Array Value} {e : TypeId} {v0 v1 v2 : Value} (h : w.heap[b]? = some (.cells C e (0, 0))) (hC : C.size = 3) :
    (((w.setCell ⟨b, 0, none⟩ v0).setCell ⟨b, 1, none⟩ v1).setCell ⟨b, 2, none⟩ v2).heap[b]? = some (.cells #[v0, v1, v2] e (0, 0)) := stores_all [v0, v1, v2] h hC
theorem store4 {w : World} {b : Nat} {C : Array Value} {e : TypeId} {v0 v1 v2 v3 : Value} (h : w.heap[b]? = some (.cells C e (0, 0))) (hC : C.size = 4) :
    ((((w.setCell ⟨b, 0, none⟩ v0).setCell ⟨b, 1, none⟩ v1).setCell ⟨b, 2, none⟩ v2).setCell ⟨b, 3, none⟩ v3).heap[b]? = some (.cells #[v0, v1, v2, v3] e (0, 0)) := stores_all [v0, v1, v2, v3] h hC
theorem store5 {w : World} {b : Nat} {C : Array Value} {e : TypeId} {v0 v1 v2 v3 v4 : Value} (h : w.heap[b]? = some (.cells C e (0, 0))) (hC : C.size = 5) :
    (((((w.setCell ⟨b, 0, none⟩ v0).setCell ⟨b, 1, none⟩ v1).setCell ⟨b, 2, none⟩ v2).setCell ⟨b, 3, none⟩ v3).setCell ⟨b, 4, none⟩ v4).heap[b]? = some (.cells #[v0, v1, v2, v3, v4] e (0, 0)) := stores_all [v0, v1, v2, v3, v4] h hC
theorem store6 {w : World} {b : Nat} {C : Array Value} {e : TypeId} {v0 v1 v2 v3 v4 v5 : Value} (h : w.heap[b]? = some (.cells C e (0, 0))) (hC : C.size = 6) :
    ((((((w.setCell ⟨b, 0, none⟩ v0).setCell ⟨b, 1, none⟩ v1).setCell ⟨b, 2, none⟩ v2).setCell ⟨b, 3, none⟩ v3).setCell ⟨b, 4, none⟩ v4).setCell ⟨b, 5, none⟩ v5).heap[b]? = some (.cells #[v0, v1, v2, v3, v4, v5] e (0, 0)) := stores_all [v0, v1, v2, v3, v4, v5] h hC
theorem store7 {w : World} {b : Nat} {C : Array Value} {e : TypeId} {v0 v1 v2 v3 v4 v5 v6 : Value} (h : w.heap[b]? = some (.cells C e (0, 0))) (hC : C.size = 7) :
    (((((((w.setCell ⟨b, 0, none⟩ v0).setCell ⟨b, 1, none⟩ v1).setCell ⟨b, 2, none⟩ v2).setCell ⟨b, 3, none⟩ v3).setCell ⟨b, 4, none⟩ v4).setCell ⟨b, 5, none⟩ v5).setCell ⟨b, 6, none⟩ v6).heap[b]? = some (.cells #[v0, v1, v2, v3, v4, v5, v6] e (0, 0)) := stores_all [v0, v1, v2, v3, v4, v5, v6] h hC
theorem store8 {w : World} {b : Nat} {C : Array Value} {e : TypeId} {v0 v1 v2 v3 v4 v5 v6 v7 : Value} (h : w.heap[b]? = some (.cells C e (0, 0))) (hC : C.size = 8) :
    ((((((((w.setCell ⟨b, 0, none⟩ v0).setCell ⟨b, 1, none⟩ v1).setCell ⟨b, 2, none⟩ v2).setCell ⟨b, 3, none⟩ v3).setCell ⟨b, 4, none⟩ v4).setCell ⟨b, 5, none⟩ v5).setCell ⟨b, 6, none⟩ v6).setCell ⟨b, 7, none⟩ v7).heap[b]? = some (.cells #[v0, v1, v2, v3, v4, v5, v6, v7] e (0, 0)) := stores_all [v0, v1, v2, v3, v4, v5, v6, v7] h hC
theorem store9 {w : World} {b : Nat} {C : Array Value} {e : TypeId} {v0 v1 v2 v3 v4 v5 v6 v7 v8 : Value} (h : w.heap[b]? = some (.cells C e (0, 0))) (hC : C.size = 9) :
    (((((((((w.setCell ⟨b, 0, none⟩ v0).setCell ⟨b, 1, none⟩ v1).setCell ⟨b, 2, none⟩ v2).setCell ⟨b, 3, none⟩ v3).setCell ⟨b, 4, none⟩ v4).setCell ⟨b, 5, none⟩ v5).setCell ⟨b, 6, none⟩ v6).setCell ⟨b, 7, none⟩ v7).setCell ⟨b, 8, none⟩ v8).heap[b]? = some (.cells #[v0, v1, v2, v3, v4, v5, v6, v7, v8] e (0, 0)) := stores_all [v0, v1, v2, v3, v4, v5, v6, v7, v8] h hC
theorem store10 {w : World} {b : Nat} {C : Array Value} {e : TypeId} {v0 v1 v2 v3 v4 v5 v6 v7 v8 v9 : Value} (h : w.heap[b]? = some (.cells C e (0, 0))) (hC : C.size = 10) :
    ((((((((((w.setCell ⟨b, 0, none⟩ v0).setCell ⟨b, 1, none⟩ v1).setCell ⟨b, 2, none⟩ v2).setCell ⟨b, 3, none⟩ v3).setCell ⟨b, 4, none⟩ v4).setCell ⟨b, 5, none⟩ v5).setCell ⟨b, 6, none⟩ v6).setCell ⟨b, 7, none⟩ v7).setCell ⟨b, 8, none⟩ v8).setCell ⟨b, 9, none⟩ v9).heap[b]? = some (.cells #[v0, v1, v2, v3, v4, v5, v6, v7, v8, v9] e (0, 0)) := stores_all [v0, v1, v2, v3, v4, v5, v6, v7, v8, v9] h hC
theorem store11 {w : World} {b : Nat} {C : Array Value} {e : TypeId} {v0 v1 v2 v3 v4 v5 v6 v7 v8 v9 v10 : Value} (h : w.heap[b]? = some (.cells C e (0, 0))) (hC : C.size = 11) :
    (((((((((((w.setCell ⟨b, 0, none⟩ v0).setCell ⟨b, 1, none⟩ v1).setCell ⟨b, 2, none⟩ v2).setCell ⟨b, 3, none⟩ v3).setCell ⟨b, 4, none⟩ v4).setCell ⟨b, 5, none⟩ v5).setCell ⟨b, 6, none⟩ v6).setCell ⟨b, 7, none⟩ v7).setCell ⟨b, 8, none⟩ v8).setCell ⟨b, 9, none⟩ v9).setCell ⟨b, 10, none⟩ v10).heap[b]? = some (.cells #[v0, v1, v2, v3, v4, v5, v6, v7, v8, v9, v10] e (0, 0)) := stores_all [v0, v1, v2, v3, v4, v5, v6, v7, v8, v9, v10] h hC
theorem store12 {w : World} {b : Nat} {C : Array Value} {e : TypeId} {v0 v1 v2 v3 v4 v5 v6 v7 v8 v9 v10 v11 : Value} (h : w.heap[b]? = some (.cells C e (0, 0))) (hC : C.size = 12) :
    ((((((((((((w.setCell ⟨b, 0, none⟩ v0).setCell ⟨b, 1, none⟩ v1).setCell ⟨b, 2, none⟩ v2).setCell ⟨b, 3, none⟩ v3).setCell ⟨b, 4, none⟩ v4).setCell ⟨b, 5, none⟩ v5).setCell ⟨b, 6, none⟩ v6).setCell ⟨b, 7, none⟩ v7).setCell ⟨b, 8, none⟩ v8).setCell ⟨b, 9, none⟩ v9).setCell ⟨b, 10, none⟩ v10).setCell ⟨b, 11, none⟩ v11).heap[b]? = some (.cells #[v0, v1, v2, v3, v4, v5, v6, v7, v8, v9, v10, v11] e (0, 0)) := stores_all [v0, v1, v2, v3, v4, v5, v6, v7, v8, v9, v10, v11] h hC
end Go.Proofs.Ytdoheningeafhaa
