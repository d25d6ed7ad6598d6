/- The evaluator: cells read and written; what is made. | The evaluator: what is built, made, converted; maps; texts that are ranged over. | The evaluator: conversions, lengths, maps, texts that are ranged over, slices that are made. | The evaluator: slices that are made, maps, texts that are ranged over. -/
import Derived.Test.YtndpcphmndfajaaGreatDoorZEv5
import Derived.Lib.ConvBytes
import Derived.Laws.BytesString

namespace Go.Proofs.YtndpcphmndfajaaGreatDoor
open Go.RowKit
set_option linter.unusedVariables false
set_option linter.unusedSimpArgs false

section
variable {X : Cx} {P : Program} {w : World} {ρ : Ren}

theorem cell_in {n k : Nat} {c : List Value} {e : TypeId} {fz : Nat × Nat} {v : Value} (h : w.heap[n]? = some (.cells c.toArray e fz)) (hv : c[k]? = some v) : w.cell? ⟨n, k, none⟩ = some v := by
  simp [World.cell?, h, hv]
theorem load_run {n o k : Nat} {c : List Value} {e : TypeId} {fz : Nat × Nat} (h : w.heap[n]? = some (.cells c.toArray e fz)) (hk : o + k ≤ c.length) :
    (loadCells ⟨n, o, none⟩ k).run P w = .ok ((c.drop o).take k).toArray w := by
  have hl : ((c.drop o).take k).length = k := by simp; omega
  have := run_loadCells_list (P := P) w ⟨n, o, none⟩ ((c.drop o).take k) (fun j v hj => by
    rw [addr_add]
    apply cell_in h
    rw [List.getElem?_take] at hj
    split at hj
    · rwa [List.getElem?_drop] at hj
    · cases hj)
  rwa [hl] at this

def setL (c : List Value) (k : Nat) (vs : List Value) : List Value := c.take k ++ (vs ++ c.drop (k + vs.length))
theorem setCell_heap {n k : Nat} {c : List Value} {e : TypeId} {fz : Nat × Nat} (v : Value) (h : w.heap[n]? = some (.cells c.toArray e fz)) :
    w.setCell ⟨n, k, none⟩ v = { w with heap := w.heap.setIfInBounds n (.cells (c.set k v).toArray e fz) } := by
  unfold World.setCell
  congr 1
  apply Array.ext_getElem?
  intro i
  rw [Array.getElem?_modify, Array.getElem?_setIfInBounds]
  obtain ⟨hn, he⟩ := Array.getElem?_eq_some_iff.1 h
  by_cases hi : n = i
  · subst hi
    simp [hn, he]
  · simp [hi]
theorem setL_cons (c : List Value) (k : Nat) (v : Value) (vs : List Value) (hk : k < c.length) : setL (c.set k v) (k + 1) vs = setL c k (v :: vs) := by
  unfold setL
  apply List.ext_getElem?
  intro i
  by_cases h1 : i < k
  · simp [List.getElem?_append, List.getElem?_take, List.getElem?_set, h1, show i < k + 1 by omega, show ¬ k = i by omega, show min (k+1) c.length = k + 1 by omega, show min k c.length = k by omega]
  · by_cases h2 : i = k
    · subst h2
      simp [List.getElem?_append, List.getElem?_take, List.getElem?_set, hk, show min (i+1) c.length = i + 1 by omega, show min i c.length = i by omega]
    · have e1 : min (k + 1) c.length = k + 1 := by omega
      have e2 : min k c.length = k := by omega
      have h3 : ¬ i < k + 1 := by omega
      have e3 : i - k = (i - (k + 1)) + 1 := by omega
      simp only [List.getElem?_append, List.length_take, List.length_set, e1, e2, h1, h3, if_false, List.cons_append, e3, List.length_cons, List.getElem?_cons_succ]
      split
      · rfl
      · rw [List.getElem?_drop, List.getElem?_drop, List.getElem?_set]
        rw [if_neg (by omega)]
        congr 1
        omega
theorem setL_length (c : List Value) (k : Nat) (vs : List Value) (h : k + vs.length ≤ c.length) : (setL c k vs).length = c.length := by
  simp [setL]; omega
theorem store_run {n o : Nat} {e : TypeId} {fz : Nat × Nat} : ∀ (vs : List Value) (i : Nat) (c : List Value) (w : World), w.heap[n]? = some (.cells c.toArray e fz) → o + i + vs.length ≤ c.length →
    (∀ k, k < c.length → ¬(fz.1 ≤ k ∧ k < fz.2)) → (∀ v ∈ vs, v.oneCell' = true) →
    (storeCells ⟨n, o, none⟩ vs i).run P w = .ok () { w with heap := w.heap.setIfInBounds n (.cells (setL c (o + i) vs).toArray e fz) }
  | [], i, c, w, h, _, _, _ => by
    have : setL c (o + i) [] = c := by simp [setL]
    rw [this]
    simp only [storeCells]
    have : w.heap.setIfInBounds n (.cells c.toArray e fz) = w.heap := by
      apply Array.ext_getElem?
      intro j
      rw [Array.getElem?_setIfInBounds]
      split
      · rename_i hj; subst hj
        split
        · exact h.symm
        · rename_i hn; rw [Array.getElem?_eq_none (by omega)]
      · rfl
    rw [this]
    rfl
  | v :: vs, i, c, w, h, hl, hf, h1 => by
    have hk : o + i < c.length := by simp at hl; omega
    have hst : (store ((⟨n, o, none⟩ : Addr).add i) v).run P w = .ok () (w.setCell ⟨n, o + i, none⟩ v) := by
      rw [addr_add, run_store P w _ v _ (h1 v (by simp))]
      have hc := cell_in (k := o + i) h (List.getElem?_eq_getElem hk)
      have hz : w.frozen? ⟨n, o + i, none⟩ = false := by
        simp only [World.frozen?, h]
        have := hf _ hk
        simp only [Bool.and_eq_false_iff, decide_eq_false_iff_not]
        by_cases h3 : fz.1 ≤ o + i
        · exact .inr fun h4 => this ⟨h3, h4⟩
        · exact .inl h3
      simp [hc, hz]
    have hw : (w.setCell ⟨n, o + i, none⟩ v).heap[n]? = some (.cells (c.set (o + i) v).toArray e fz) := by
      rw [setCell_heap v h]
      have hn := (Array.getElem?_eq_some_iff.1 h).1
      simp [Array.getElem?_setIfInBounds, hn]
    have ih := store_run (o := o) vs (i + 1) (c.set (o + i) v) _ hw (by simp at hl ⊢; omega) (by simpa using hf) (fun x hx => h1 x (by simp [hx]))
    simp only [storeCells, Sem.run_bind, hst, Result.andThen_ok, ih]
    rw [show o + (i + 1) = o + i + 1 by omega, setL_cons _ _ _ _ hk, setCell_heap v h]
    congr 2
    apply Array.ext_getElem?
    intro j
    simp only [Array.getElem?_setIfInBounds, Array.size_setIfInBounds]
    split <;> simp

/-- Cells of a block whose list is known. -/
theorem VRs.app_len {a b : List Value} {l : List SV} (h : VRs ρ l a) {o k : Nat} (hk : o + k ≤ l.length) : ((a ++ b).drop o).take k = (a.drop o).take k := by
  have := h.len
  rw [List.drop_append_of_le_length (by omega), List.take_append_of_le_length (by simp; omega)]
theorem vrs_setAt {a b : List Value} {l : List SV} {vs : List SV} {us : List Value} (h : VRs ρ l a) (hv : VRs ρ vs us) {o : Nat} (hk : o + vs.length ≤ l.length) :
    setL (a ++ b) o us = setL a o us ++ b ∧ VRs ρ (setAt l o vs) (setL a o us) := by
  have h1 := h.len
  have h2 := hv.len
  constructor
  · unfold setL
    rw [List.take_append_of_le_length (by omega), List.drop_append_of_le_length (by omega)]
    simp
  · unfold setL setAt
    rw [h2]
    exact (h.take o).app (hv.app (h.drop _))

theorem evLoad_inv {S : St} {r : SV × St} {t : TypeId} {a : SV} (h : evLoad a P S t = some r) : ∃ b o, a = .p b o ∧ loadK (aggT P t) P S t b o = some r := by
  unfold evLoad at h
  split at h
  · exact ⟨_, _, rfl, h⟩
  · cases h
theorem rdCells_inv {S : St} {b o n : Nat} {l : List SV} (h : rdCells S b o n = some l) : ∃ c e, S.H.get b = some (.cells c e) ∧ o + n ≤ c.length ∧ l = (c.drop o).take n := by
  unfold rdCells at h
  cases hb : S.H.get b with
  | none => rw [hb] at h; cases h
  | some x =>
    rw [hb] at h
    cases x <;> simp only [rdB, reduceCtorEq] at h
    rename_i c e
    cases hk : Nat.ble (Nat.add o n) c.length with
    | false => rw [hk] at h; cases h
    | true =>
      rw [hk] at h
      simp only [rdK, Option.some.injEq] at h
      exact ⟨c, e, rfl, Nat.le_of_ble_eq_true hk, h.symm⟩
theorem rd_run {o k : Nat} {l : List SV} {e : TypeId} {n : Nat} {ob : Obj} (hk : o + k ≤ l.length) (hw : w.heap[n]? = some ob) (hB : BR ρ (.cells l e) ob) :
    ∃ us, (loadCells ⟨n, o, none⟩ k).run P w = .ok us.toArray w ∧ VRs ρ ((l.drop o).take k) us := by
  obtain ⟨a, bb, e', fz, h1, rfl, h3⟩ := hB
  have hl := h1.len
  refine ⟨(a.drop o).take k, ?_, (h1.drop o).take k⟩
  rw [load_run hw (by simp; omega), h1.app_len hk]
theorem evLoad_tri {S S' : St} {t : TypeId} {a v : SV} (h : evLoad a X.E.P S t = some (v, S')) : Tri X S S' v (fun ρ s => ∃ u, VR ρ a u ∧ s = Instr.loadAt t u) := by
  obtain ⟨b, o, rfl, g⟩ := evLoad_inv h
  clear h
  cases hag : aggT X.E.P t with
  | none => rw [hag] at g; cases g
  | some ag =>
    rw [hag] at g
    cases ag with
    | true =>
      simp only [loadK] at g
      cases hs : sizeT X.E.P t with
      | none => rw [hs] at g; cases g
      | some k =>
        rw [hs] at g
        simp only [loadA] at g
        cases hr : rdCells S b o k with
        | none => rw [hr] at g; cases g
        | some l =>
          rw [hr] at g
          simp only [aggR, Option.some.injEq, Prod.mk.injEq] at g
          obtain ⟨rfl, rfl⟩ := g
          obtain ⟨c, e, hb, hk, rfl⟩ := rdCells_inv hr
          refine tri_saw hb fun ρ w s n ob ha hr hu hw hB => ?_
          obtain ⟨u, hv, rfl⟩ := ha
          simp only [VR] at hv
          obtain ⟨m, hm, rfl⟩ := hv
          obtain rfl := hu m hm
          obtain ⟨us, h1, h2⟩ := rd_run (P := X.E.P) hk hw hB
          refine ⟨.agg us.toArray, ?_, by simp only [VR]; exact ⟨us, h2, rfl⟩⟩
          simp only [Instr.loadAt, Instr.sureAddr, Sem.run_bind, Sem.run_pure, Result.andThen_ok, loadVar, run_agg hag, if_true, run_size hs, h1]
    | false =>
      simp only [loadK] at g
      cases hr : rdCells S b o 1 with
      | none => rw [hr] at g; cases g
      | some l =>
        rw [hr] at g
        obtain ⟨c, e, hb, hk, rfl⟩ := rdCells_inv hr
        have hd : (c.drop o).take 1 = [c[o]'(by omega)] := by
          rw [List.drop_eq_getElem_cons (by omega)]
          rfl
        rw [hd] at g
        simp only [oneR, Option.some.injEq, Prod.mk.injEq] at g
        obtain ⟨rfl, rfl⟩ := g
        refine tri_saw hb fun ρ w s n ob ha hr hu hw hB => ?_
        obtain ⟨u, hv, rfl⟩ := ha
        simp only [VR] at hv
        obtain ⟨m, hm, rfl⟩ := hv
        obtain rfl := hu m hm
        obtain ⟨c', bb, e', fz, h1, rfl, h3⟩ := hB
        obtain ⟨u, h4, h5⟩ := h1.get (List.getElem?_eq_getElem (show o < c.length by omega))
        refine ⟨u, ?_, h5⟩
        have hc := cell_in (k := o) hw (v := u) (by rw [List.getElem?_append_left (by rw [h1.len]; omega)]; exact h4)
        simp only [Instr.loadAt, Instr.sureAddr, Sem.run_bind, Sem.run_pure, Result.andThen_ok, loadVar, run_agg hag, Bool.false_eq_true, if_false, run_load, hc]

theorem cells_toList {x : SV} {u : Value} (h : VR ρ x u) (hc : allOne x.cells = true) : VRs ρ x.cells u.cells.toList ∧ ∀ v ∈ u.cells.toList, v.oneCell' = true := by
  have h1 : VRs ρ x.cells u.cells.toList := by
    cases x <;> simp only [SV.cells, allOne, SV.one] at hc ⊢ <;> try cases hc
    case agg l =>
      simp only [VR] at h
      obtain ⟨a, h1, rfl⟩ := h
      simpa [Value.cells] using h1
    all_goals
      have hu := h.one rfl
      have : u.cells.toList = [u] := by cases u <;> first | rfl | (simp [Value.oneCell'] at hu)
      rw [this]
      exact vrs_cons.2 ⟨h, vrs_nil.2 rfl⟩
  exact ⟨h1, allOne_spec hc h1⟩

theorem evStore_inv {S S' : St} {ng : Nat} {t : TypeId} {a v : SV} (h : evStore a P ng S t v = some S') : ∃ b o, a = .p b o ∧ storeK (sizeT P t) ng S b o v.cells = some S' := by
  unfold evStore at h
  split at h
  · exact ⟨_, _, rfl, h⟩
  · cases h
theorem wrCells_inv {S S' : St} {ng b o : Nat} {vs : List SV} (h : wrCells ng S b o vs = some S') :
    ∃ c e, S.H.get b = some (.cells c e) ∧ o + vs.length ≤ c.length ∧ ng ≤ b ∧ allOne vs = true ∧ S' = S.wr b (some (.cells (setAt c o vs) e)) := by
  unfold wrCells at h
  cases hb : S.H.get b with
  | none => rw [hb] at h; cases h
  | some x =>
    rw [hb] at h
    cases x <;> simp only [wrB, reduceCtorEq] at h
    rename_i c e
    cases hk : and (Nat.ble (Nat.add o vs.length) c.length) (and (Nat.ble ng b) (allOne vs)) with
    | false => rw [hk] at h; cases h
    | true =>
      rw [hk] at h
      simp only [wrK, Option.some.injEq] at h
      have hk : (Nat.ble (Nat.add o vs.length) c.length && (Nat.ble ng b && allOne vs)) = true := hk
      simp only [Bool.and_eq_true] at hk
      exact ⟨c, e, rfl, Nat.le_of_ble_eq_true hk.1, Nat.le_of_ble_eq_true hk.2.1, hk.2.2, h.symm⟩
theorem wr_run {o : Nat} {l vs : List SV} {us : List Value} {e : TypeId} {n : Nat} {ob : Obj} (hk : o + vs.length ≤ l.length) (hv : VRs ρ vs us) (h1 : allOne vs = true) (hw : w.heap[n]? = some ob) (hB : BR ρ (.cells l e) ob) :
    ∃ o', (storeCells ⟨n, o, none⟩ us).run P w = .ok () { w with heap := w.heap.setIfInBounds n o' } ∧ BR ρ (.cells (setAt l o vs) e) o' ∧ Keeps (.cells l e) (.cells (setAt l o vs) e) (some ob) o' := by
  obtain ⟨c, bb, e', fz, h4, rfl, h5⟩ := hB
  have hl := h4.len
  have hl2 := hv.len
  have hrun := store_run (P := P) (o := o) us 0 (c ++ bb) w hw (by simp; omega) h5 (allOne_spec h1 hv)
  obtain ⟨h8, h9⟩ := vrs_setAt (b := bb) h4 hv (o := o) hk
  rw [show (o + 0) = o from rfl, h8] at hrun
  refine ⟨_, hrun, ⟨setL c o us, bb, e', fz, h9, rfl, fun k hk' => ?_⟩, fun l' t ht => ⟨⟨l, by injection ht with e1 e2; rw [e2]⟩, fun c2 t2 f2 h2 => ⟨_, _, _, rfl, ?_⟩⟩⟩
  · rw [← h8, setL_length _ _ _ (by simp; omega)] at hk'
    exact h5 k hk'
  · injection h2 with h2
    injection h2 with e1 e2 e3
    subst e1
    rw [← h8]
    simp only [List.size_toArray]
    rw [setL_length _ _ _ (by simp; omega)]
theorem evStore_tri {S S' : St} {t : TypeId} {a v : SV} (h : evStore a X.E.P X.E.ng S t v = some S') :
    Tri X S S' .und (fun ρ s => ∃ u x, VR ρ a u ∧ VR ρ v x ∧ s = (do Instr.storeAt t u x; pure undef)) := by
  obtain ⟨b, o, rfl, g⟩ := evStore_inv h
  clear h
  cases hs : sizeT X.E.P t with
  | none => rw [hs] at g; cases g
  | some k =>
    rw [hs] at g
    simp only [storeK] at g
    cases hlen : Nat.beq v.cells.length k with
    | false => rw [hlen] at g; cases g
    | true =>
      rw [hlen] at g
      have hlen := Nat.eq_of_beq_eq_true hlen
      obtain ⟨c, e, hb, h1, h2, h3, rfl⟩ := wrCells_inv g
      refine tri_wr hb h2 fun ρ w s n ob ha hr hu hw hB => ?_
      obtain ⟨u, x, hv, hx, rfl⟩ := ha
      simp only [VR] at hv
      obtain ⟨m, hm, rfl⟩ := hv
      obtain rfl := hu m hm
      obtain ⟨h6, h7⟩ := cells_toList hx h3
      obtain ⟨o', h8, h9, h10⟩ := wr_run (P := X.E.P) h1 h6 h3 hw hB
      refine ⟨undef, { w with heap := w.heap.setIfInBounds m o' }, o', ?_, rfl, ⟨rfl, rfl, rfl⟩, by simp only [VR], h9, h10⟩
      have hsz : x.cells.size = k := by rw [← Array.length_toList, h6.len, hlen]
      simp only [Instr.storeAt, Instr.sureAddr, Sem.run_bind, Sem.run_pure, Result.andThen_ok, storeVar, run_size hs, hsz, ne_eq, not_true_eq_false, if_false, h8]
end
end Go.Proofs.YtndpcphmndfajaaGreatDoor

namespace Go.Proofs.YtndpcphmndfajaaGreatDoor
open Go.RowKit
set_option linter.unusedVariables false
set_option linter.unusedSimpArgs false

section
variable {X : Cx} {P : Program} {w : World} {ρ : Ren}

theorem br_cells {l : List SV} {e e' : TypeId} {us : List Value} (h : VRs ρ l us) : BR ρ (.cells l e) (.cells us.toArray e' (0, 0)) :=
  ⟨us, [], e', (0, 0), h, by simp, fun k _ h => by simp at h⟩
theorem br_more {l : List SV} {e e' : TypeId} {us r : List Value} (h : VRs ρ l us) : BR ρ (.cells l e) (.cells (us ++ r).toArray e' (0, 0)) :=
  ⟨us, r, e', (0, 0), h, rfl, fun k _ h => by simp at h⟩

theorem evAlloc_tri {S S' : St} {t : TypeId} {v : SV} (h : evAlloc (zeroT X.E.P t) S t = some (v, S')) : Tri X S S' v (fun ρ s => s = Instr.alloc t true (.tuple #[])) := by
  cases hz : zeroT X.E.P t with
  | none => rw [hz] at h; cases h
  | some z =>
    rw [hz] at h
    simp only [evAlloc, Option.some.injEq, Prod.mk.injEq] at h
    obtain ⟨rfl, rfl⟩ := h
    refine tri_new fun ρ w s hs => ?_
    subst hs
    obtain ⟨u, h1, h2⟩ := run_zero (w := w) (ρ := ρ) hz
    refine ⟨.pointer (some ⟨w.heap.size, 0, none⟩), .cells u.cells t (0, 0), { w with heap := w.heap.push (.cells u.cells t (0, 0)) }, fun _ => False, ?_, rfl, ⟨rfl, rfl, rfl⟩, room_no, fun σ hσ hr _ => ⟨?_, ?_⟩⟩
    · simp only [Instr.alloc, Sem.run_bind, h1, Result.andThen_ok, newVar, newRow, run_newObj, Sem.run_pure]
    · simp only [VR]; exact ⟨_, hr, rfl⟩
    · have := br_cells (e := t) (e' := t) (h2.mono hσ)
      simpa using this
theorem evBox_tri {S S' : St} {t : TypeId} {x v : SV} (h : evBox (some x) S t = some (v, S')) : Tri X S S' v (fun ρ s => ∃ u, VR ρ x u ∧ s = Instr.box t u) := by
  simp only [evBox] at h
  cases hc : allOne x.cells with
  | false => rw [hc] at h; cases h
  | true =>
    rw [hc] at h
    simp only [boxK, Option.some.injEq, Prod.mk.injEq] at h
    obtain ⟨rfl, rfl⟩ := h
    refine tri_new fun ρ w s hs => ?_
    obtain ⟨u, hu, rfl⟩ := hs
    obtain ⟨h1, h2⟩ := cells_toList hu hc
    refine ⟨.pointer (some ⟨w.heap.size, 0, none⟩), .cells u.cells t (0, 0), { w with heap := w.heap.push (.cells u.cells t (0, 0)) }, fun _ => False, ?_, rfl, ⟨rfl, rfl, rfl⟩, room_no, fun σ hσ hr _ => ⟨?_, ?_⟩⟩
    · simp only [Instr.box, Sem.run_bind, newVar, newRow, run_newObj, Sem.run_pure, Result.andThen_ok]
    · simp only [VR]; exact ⟨_, hr, rfl⟩
    · have := br_cells (e := t) (e' := t) (h1.mono hσ)
      simpa using this

/-! ### Parts that are laid into a value -/
def PV (ρ : Ren) : List (Nat × SV) → List (Nat × Value) → Prop
  | [], l => l = []
  | (i, x) :: r, l => ∃ v s, l = (i, v) :: s ∧ VR ρ x v ∧ PV ρ r s
theorem fold_set (off : Nat) : ∀ (vs : List Value) (i : Nat) (c : List Value), off + i + vs.length ≤ c.length →
    (vs.zipIdx i).foldl (fun cs (x, j) => cs.setIfInBounds (off + j) x) c.toArray = (setL c (off + i) vs).toArray
  | [], i, c, _ => by simp [setL]
  | v :: vs, i, c, h => by
    simp only [List.zipIdx_cons, List.foldl_cons]
    have e : c.toArray.setIfInBounds (off + i) v = (c.set (off + i) v).toArray := by simp
    rw [e, fold_set off vs (i + 1) _ (by simp at h ⊢; omega), show off + (i + 1) = off + i + 1 by omega, setL_cons _ _ _ _ (by simp at h; omega)]
theorem evFill_ok {pl pl' : Nat → Option (Nat × Nat)} (hp : ∀ i, pl i = pl' i) : ∀ {vs : List (Nat × SV)} {ps : List (Nat × Value)} {z cs : List SV} {zs : List Value},
    evFill pl z vs = some cs → allCells vs = true → PV ρ vs ps → VRs ρ z zs → ∃ us, Instr.fill pl' zs.toArray ps = some us.toArray ∧ VRs ρ cs us
  | [], ps, z, cs, zs, h, _, hv, hz => by
    simp only [PV] at hv
    subst hv
    simp only [evFill, Option.some.injEq] at h
    subst h
    exact ⟨zs, rfl, hz⟩
  | (i, x) :: vs, ps, z, cs, zs, h, hc, hv, hz => by
    simp only [PV] at hv
    obtain ⟨v, r, rfl, hx, hr⟩ := hv
    unfold evFill at h
    unfold allCells at hc
    simp only at hc
    split at hc
    · rename_i hone
      split at h
      · cases h
      · rename_i off size hpl
        split at h
        · rename_i hb
          simp only [Bool.and_eq_true] at hb
          have hb1 := Nat.eq_of_beq_eq_true hb.1
          have hb2 := Nat.le_of_ble_eq_true hb.2
          obtain ⟨h1, h2⟩ := cells_toList hx hone
          have hl1 := h1.len
          have hl2 := hz.len
          have hsz : v.cells.size = size := by rw [← Array.length_toList, hl1, hb1]
          obtain ⟨e1, e2⟩ := vrs_setAt (b := []) hz h1 (o := off) hb2
          obtain ⟨us, h3, h4⟩ := evFill_ok hp h hc hr e2
          refine ⟨us, ?_, h4⟩
          have hfold := fold_set off v.cells.toList 0 zs (by omega)
          have hfold2 : Array.foldl (fun (cs : Array Value) (x : Value × Nat) => cs.setIfInBounds (off + x.2) x.1) zs.toArray v.cells.zipIdx = (setL zs off v.cells.toList).toArray := by
            rw [← Array.foldl_toList, Array.toList_zipIdx]
            exact hfold
          simp only [Instr.fill, ← hp, hpl]
          rw [if_neg (by simp [hsz]; omega)]
          rw [← h3]
          congr 1
        · cases h
    · cases hc

theorem places_ok : ∀ {fs : List Field} {pl : List (Nat × Nat)}, places P fs = some pl → (fs.mapM fun f => do pure (f.offset, ← sizeOf f.type) : Sem (List (Nat × Nat))).run P w = .ok pl w
  | [], pl, h => by simp only [places, Option.some.injEq] at h; subst h; simp
  | f :: fs, pl, h => by
    unfold places at h
    split at h
    · rename_i n l hs hl
      simp only [Option.some.injEq] at h
      subst h
      have ih := places_ok hl
      simp only [List.mapM_cons, Sem.run_bind, run_size hs, Result.andThen_ok, Sem.run_pure]
      rw [ih]
      rfl
    · cases h

theorem evBuild_tri {S S' : St} {t : TypeId} {vs : List (Nat × SV)} {v : SV} (h : evBuild (some vs) (zeroT X.E.P t) X.E.P t S = some (v, S')) :
    Tri X S S' v (fun ρ s => ∃ ps, PV ρ vs ps ∧ s = Instr.build t ps.toArray) := by
  cases hz : zeroT X.E.P t with
  | none => rw [hz] at h; cases h
  | some z =>
    rw [hz] at h
    simp only [evBuild] at h
    cases hc : allCells vs with
    | false => rw [hc] at h; cases h
    | true =>
      rw [hc] at h
      simp only [buildK] at h
      cases hd : X.E.P.underlying t with
      | none => rw [hd] at h; cases h
      | some d =>
        rw [hd] at h
        cases d <;> simp only [buildT, reduceCtorEq] at h
        case struct fs =>
          cases hp : places X.E.P fs.toList with
          | none => rw [hp] at h; cases h
          | some pl =>
            rw [hp] at h
            simp only [buildF] at h
            cases hf : evFill (pl[·]?) z vs with
            | none => rw [hf] at h; cases h
            | some cs =>
              rw [hf] at h
              simp only [aggP, Option.some.injEq, Prod.mk.injEq] at h
              obtain ⟨rfl, rfl⟩ := h
              refine tri_pure fun ρ w s hs => ?_
              obtain ⟨ps, hps, rfl⟩ := hs
              obtain ⟨u, h1, h2⟩ := run_zero (w := w) (ρ := ρ) hz
              obtain ⟨us, h3, h4⟩ := evFill_ok (pl' := (pl.toArray[·]?)) (fun i => by simp) hf hc hps h2
              refine ⟨.agg us.toArray, ?_, by simp only [VR]; exact ⟨us, h4, rfl⟩⟩
              have hpl := places_ok (w := w) hp
              simp only [Instr.build, Sem.run_bind, h1, Result.andThen_ok, run_und hd, Array.mapM_eq_mapM_toList, hpl, Sem.run_map]
              simp only [Array.toArray_toList] at h3
              simp only [h3, Sem.run_pure]
        case array n e =>
          cases hn : sizeT X.E.P e with
          | none => rw [hn] at h; cases h
          | some k =>
            rw [hn] at h
            simp only [buildA] at h
            cases hf : evFill (fun i => some (i * k, k)) z vs with
            | none => rw [hf] at h; cases h
            | some cs =>
              rw [hf] at h
              simp only [aggP, Option.some.injEq, Prod.mk.injEq] at h
              obtain ⟨rfl, rfl⟩ := h
              refine tri_pure fun ρ w s hs => ?_
              obtain ⟨ps, hps, rfl⟩ := hs
              obtain ⟨u, h1, h2⟩ := run_zero (w := w) (ρ := ρ) hz
              obtain ⟨us, h3, h4⟩ := evFill_ok (pl' := fun i => some (i * k, k)) (fun i => rfl) hf hc hps h2
              refine ⟨.agg us.toArray, ?_, by simp only [VR]; exact ⟨us, h4, rfl⟩⟩
              simp only [Array.toArray_toList] at h3
              simp only [Instr.build, Sem.run_bind, h1, Result.andThen_ok, run_und hd, run_size hn, h3, Sem.run_pure]

/-- Noughts, row by row. -/
theorem rep_rows (zs : Array Value) (hz : 0 < zs.size) : ∀ n : Nat, ((Array.range (n * zs.size)).map fun i => zs[i % zs.size]!) = ((List.replicate n zs.toList).flatten).toArray := by
  intro n
  apply Array.ext_getElem?
  intro i
  simp only [Array.getElem?_map, List.getElem?_toArray]
  induction n generalizing i with
  | zero => simp
  | succ n ih =>
    simp only [List.replicate_succ, List.flatten_cons]
    by_cases hi : i < zs.size
    · rw [List.getElem?_append_left (by simpa using hi)]
      rw [Array.getElem?_range, if_pos (by rw [Nat.add_mul, Nat.one_mul]; omega)]
      simp [Nat.mod_eq_of_lt hi, hi, getElem!_pos]
    · rw [List.getElem?_append_right (by simpa using hi)]
      have := ih (i - zs.size)
      simp only [Array.length_toList] at this ⊢
      rw [← this, Array.getElem?_range, Array.getElem?_range]
      have he : (n + 1) * zs.size = n * zs.size + zs.size := by rw [Nat.add_mul, Nat.one_mul]
      by_cases hlt : i < (n + 1) * zs.size
      · rw [if_pos hlt, if_pos (by omega)]
        simp only [Option.map_some, Option.some.injEq]
        congr 1
        have h2 : zs.size ≤ i := by omega
        rw [Nat.mod_eq_sub_mod h2]
      · rw [if_neg hlt, if_neg (by omega)]

theorem evBuildSlice_tri {S S' : St} {t : TypeId} {len : Nat} {vs : List (Nat × SV)} {v : SV} (h : evBuildSlice (some vs) (elemT X.E.P t) X.E.P len S = some (v, S')) :
    Tri X S S' v (fun ρ s => ∃ ps, PV ρ vs ps ∧ s = Instr.buildSlice t len ps.toArray) := by
  cases he : elemT X.E.P t with
  | none => rw [he] at h; cases h
  | some ez =>
    obtain ⟨e, n⟩ := ez
    obtain ⟨ht, hn⟩ := elemT_und he
    rw [he] at h
    simp only [evBuildSlice] at h
    cases hz : zeroT X.E.P e with
    | none => rw [hz] at h; cases h
    | some z =>
      rw [hz] at h
      simp only [bsZ] at h
      cases hk : allCells vs && (Nat.ble (len * n) 16777216 && Nat.beq z.length n && Nat.blt 0 n) with
      | false => rw [hk] at h; cases h
      | true =>
        rw [hk] at h
        simp only [Bool.and_eq_true] at hk
        obtain ⟨hc, ⟨h1, h2⟩, h3⟩ := hk
        have h1 := Nat.le_of_ble_eq_true h1
        have h2 := Nat.eq_of_beq_eq_true h2
        have h3 := blt_t h3
        simp only [bsK] at h
        cases hf : evFill (fun i => some (i * n, n)) (repZ z len) vs with
        | none => rw [hf] at h; cases h
        | some cs =>
          rw [hf] at h
          simp only [bsR, Option.some.injEq, Prod.mk.injEq] at h
          obtain ⟨rfl, rfl⟩ := h
          refine tri_new fun ρ w s hs => ?_
          obtain ⟨ps, hps, rfl⟩ := hs
          obtain ⟨u, h4, h5⟩ := run_zero (w := w) (ρ := ρ) hz
          have hl := h5.len
          have hsz : u.cells.size = n := by rw [← Array.length_toList, hl, h2]
          obtain ⟨us, h6, h7⟩ := evFill_ok (pl' := fun i => some (i * n, n)) (fun i => rfl) hf hc hps (h5.rep len)
          refine ⟨.slice (some ⟨w.heap.size, 0, none⟩) len len, .cells us.toArray e (0, 0), { w with heap := w.heap.push (.cells us.toArray e (0, 0)) }, fun _ => False, ?_, rfl, ⟨rfl, rfl, rfl⟩, room_no, fun σ hσ hr _ => ⟨?_, br_cells (h7.mono hσ)⟩⟩
          · have hrow := rep_rows u.cells (by omega) len
            rw [hsz] at hrow
            simp only [Instr.buildSlice, Sem.run_bind, run_und ht, Result.andThen_ok, run_size hn, Sem.run_ite]
            rw [if_neg (by omega)]
            simp only [Sem.run_pure, Result.andThen_ok]
            by_cases h0 : len * n = 0
            · have hlen : len = 0 := by
                rcases Nat.mul_eq_zero.1 h0 with h | h
                · exact h
                · omega
              subst hlen
              simp only [List.replicate_zero, List.flatten_nil] at h6
              simp only [Nat.zero_mul, if_true, Sem.run_pure, Result.andThen_ok]
              have : (Array.range 0).map (fun x => (#[] : Array Value)[x % (#[] : Array Value).size]!) = ([] : List Value).toArray := by simp
              rw [this, h6]
              rfl
            · rw [if_neg h0]
              simp only [Sem.run_bind, h4, Result.andThen_ok, Sem.run_pure, hsz, hrow, h6]
              rfl
          · simp only [VR]
            exact ⟨_, len, hr, Nat.le_refl _, fun _ e => by cases e; rfl, (fun e => by cases e), rfl⟩
end
end Go.Proofs.YtndpcphmndfajaaGreatDoor

namespace Go.Proofs.YtndpcphmndfajaaGreatDoor
open Go.RowKit
set_option linter.unusedVariables false
set_option linter.unusedSimpArgs false

section
variable {X : Cx} {P : Program} {w : World} {ρ : Ren}

theorem bs_push (l : List Nat) (n : Nat) : (bs l).push (UInt8.ofNat n) = bs (l ++ [n]) := by
  apply ba_ext
  simp [bs, ByteArray.push]
theorem toCells_vr : ∀ (l : List Nat), VRs ρ (toCells l) (l.map fun n => .int .u8 (Int.ofNat n))
  | [] => by simp [toCells, vrs_nil]
  | n :: l => by simp only [toCells, List.map_cons]; exact vrs_cons.2 ⟨by simp only [VR], toCells_vr l⟩
theorem bs_cells {l : List Nat} (h : ∀ x ∈ l, x < 256) : (bs l).data.map (fun b => Value.int .u8 b.toNat) = (l.map fun n => Value.int .u8 (Int.ofNat n)).toArray := by
  apply Array.toList_inj.1
  rw [Array.toList_map, bs_data, List.map_map]
  exact List.map_congr_left fun x hx => by simp only [Function.comp, u8_toNat (h x hx)]; rfl

theorem ofCells_ok : ∀ {l : List SV} {r : List Nat} {us : List Value}, ofCells l = some r → VRs ρ l us → us = (r.map fun n => Value.int .u8 (Int.ofNat n)) ∧ ∀ x ∈ r, x < 256
  | [], r, us, h, hv => by
    rw [vrs_nil] at hv
    subst hv
    simp only [ofCells, Option.some.injEq] at h
    subst h
    simp
  | x :: l, r, [], h, hv => by simp only [VRs] at hv; obtain ⟨v, r, e, _⟩ := hv; cases e
  | x :: l, r, u :: us, h, hv => by
    rw [vrs_cons] at hv
    unfold ofCells at h
    split at h
    · rename_i e; cases e
    · rename_i n l' e
      injection e with e1 e2
      subst e1; subst e2
      split at h
      · rename_i hb
        split at h
        · rename_i r' hr
          simp only [Option.some.injEq] at h
          subst h
          obtain ⟨h1, h2⟩ := hv
          simp only [VR] at h1
          subst h1
          obtain ⟨h3, h4⟩ := ofCells_ok hr h2
          subst h3
          refine ⟨rfl, fun x hx => ?_⟩
          rcases List.mem_cons.1 hx with rfl | hx
          · exact blt_t hb
          · exact h4 x hx
        · cases h
      · cases h
    · cases h
theorem bytes_fold : ∀ (r acc : List Nat), (r.map Int.ofNat).foldl (fun (s : ByteArray) n => s.push (UInt8.ofNat n.toNat)) (bs acc) = bs (acc ++ r)
  | [], acc => by simp
  | n :: r, acc => by
    simp only [List.map_cons, List.foldl_cons]
    have e : (Int.ofNat n).toNat = n := rfl
    rw [e, bs_push, bytes_fold r (acc ++ [n])]
    simp
theorem bytes_run {r : List Nat} {a : Addr} (h : (loadCells a r.length).run P w = .ok (r.map fun n => Value.int .u8 (Int.ofNat n)).toArray w) (c : Nat) :
    (Conv.bytesToString (.slice (some a) r.length c)).run P w = .ok (.string (bs r)) w := by
  have e : (r.map fun n => Value.int .u8 (Int.ofNat n)) = (r.map Int.ofNat).map (Value.int .u8) := by simp
  rw [run_bytesToString w a r.length c (r.map Int.ofNat) (by rw [h, e])]
  congr 2
  exact bytes_fold r []

/-- Bytes of a text in a block of their own. -/
theorem bytes_new {src dst e : TypeId} {l : List Nat} {d : TypeDesc} (hs : P.underlying src = some d) (hd : P.underlying dst = some (.slice e)) (he : P.underlying e = some (.int .u8)) (hz : sizeT P e = some 1) (hl : ∀ x ∈ l, x < 256) :
    ∃ u o w' Q, (convert src dst (.string (bs l))).run P w = .ok u w' ∧ w'.heap = w.heap.push o ∧ Alike w w' ∧ Room P (.cells (toCells l) e) o Q ∧
    (∀ (c : Nat) (σ : Ren), σ.r c w.heap.size → (∀ k, Q k → σ.q c k) → VR σ (.sl c 0 l.length none) u ∧ BR σ (.cells (toCells l) e) o) := by
  have hcap : (bs l).size ≤ grownCap w (bs l).size 0 e := Nat.le_add_right _ _
  have hcap' : l.length ≤ grownCap w (bs l).size 0 e := by rw [← bs_size]; rw [bs_size] at hcap ⊢; exact hcap
  generalize hg : grownCap w (bs l).size 0 e = cap at hcap hcap'
  have hc : (Lib.bytesCells w e (bs l)) = ((l.map fun n => Value.int .u8 (Int.ofNat n)) ++ List.replicate (cap - l.length) (Value.int .u8 0)).toArray := by
    unfold Lib.bytesCells
    rw [bs_cells hl, hg, bs_size]
    apply Array.toList_inj.1
    simp
  have hsz : (Lib.bytesCells w e (bs l)).size = cap := by rw [hc]; simp; omega
  refine ⟨.slice (some ⟨w.heap.size, 0, none⟩) l.length cap, .cells (Lib.bytesCells w e (bs l)) e (cap, cap + 1), Lib.bytesWorld w e (bs l), fun k => k = cap, ?_, ?_, ⟨?_, ?_, ?_⟩, ?_, ?_⟩
  · rw [Lib.run_convert_string_bytes w src dst e (bs l) hs hd he, hg, bs_size]
  · apply Array.ext_getElem?
    intro i
    rw [Array.getElem?_push]
    by_cases hi : i = w.heap.size
    · rw [if_pos hi, hi, Lib.bytesWorld_at_new, hsz]
    · rw [if_neg hi]
      by_cases h2 : i < w.heap.size
      · exact Lib.bytesWorld_at_old w e (bs l) i h2
      · rw [Array.getElem?_eq_none (by have := Lib.bytesWorld_size w e (bs l); omega), Array.getElem?_eq_none (by omega)]
  · simp [Lib.bytesWorld, World.freeze, World.alloc, World.drew, -World.alloc_eq, -World.drew_eq]
  · simp [Lib.bytesWorld, World.freeze, World.alloc, World.drew, -World.alloc_eq, -World.drew_eq]
  · simp [Lib.bytesWorld, World.freeze, World.alloc, World.drew, -World.alloc_eq, -World.drew_eq]
  · intro l' e' k z he' hk hz'
    injection he' with e1 e2
    subst e2
    rw [hz] at hz'
    injection hz' with hz'
    subst hz'
    subst hk
    exact ⟨_, _, _, rfl, by rw [hsz]; omega⟩
  · intro b σ hr hq
    constructor
    · simp only [VR]
      exact ⟨_, cap, hr, hcap', fun _ e => (by cases e), fun _ _ => hq cap rfl, rfl⟩
    · refine ⟨l.map fun n => .int .u8 (Int.ofNat n), List.replicate (cap - l.length) (.int .u8 0), e, (cap, cap + 1), toCells_vr l, by rw [hc], fun k hk h => ?_⟩
      have : k < cap := by rw [← hsz, hc]; exact hk
      have := h.1
      simp only at this
      omega

theorem evConv_tri {S S' : St} {src dst : TypeId} {x v : SV} (h : evConv X.E.P S src dst x = some (v, S')) : Tri X S S' v (fun ρ s => ∃ u, VR ρ x u ∧ s = convert src dst u) := by
  unfold evConv at h
  split at h
  · rename_i k0 k k1 n h1 h2
    simp only [Option.some.injEq, Prod.mk.injEq] at h
    obtain ⟨rfl, rfl⟩ := h
    refine tri_pure fun ρ w s hs => ?_
    obtain ⟨u, hu, rfl⟩ := hs
    simp only [VR] at hu
    subst hu
    refine ⟨.int k (k.wrap n), ?_, by simp only [VR, wrapE_eq]⟩
    simp only [convert, Sem.run_bind, run_und h1, run_und h2, Result.andThen_ok]
    rfl
  · rename_i k0 k1 n h1 h2
    simp only [Option.some.injEq, Prod.mk.injEq] at h
    obtain ⟨rfl, rfl⟩ := h
    refine tri_pure fun ρ w s hs => ?_
    obtain ⟨u, hu, rfl⟩ := hs
    simp only [VR] at hu
    subst hu
    refine ⟨.string (Utf8.encode n), ?_, ?_⟩
    · simp only [convert, Sem.run_bind, run_und h1, run_und h2, Result.andThen_ok]
      rfl
    · simp only [VR, encL]
      exact ⟨by rw [bs_of], toNat_lt256 _⟩
  · rename_i l h1 h2
    simp only [Option.some.injEq, Prod.mk.injEq] at h
    obtain ⟨rfl, rfl⟩ := h
    refine tri_pure fun ρ w s hs => ?_
    obtain ⟨u, hu, rfl⟩ := hs
    have hu' := hu
    simp only [VR] at hu
    obtain ⟨rfl, _⟩ := hu
    refine ⟨_, ?_, hu'⟩
    simp only [convert, Sem.run_bind, run_und h1, run_und h2, Result.andThen_ok]
    rfl
  · rename_i e l h1 h2
    split at h
    · rename_i h3
      split at h
      · rename_i h4
        simp only [Option.some.injEq, Prod.mk.injEq] at h
        obtain ⟨rfl, rfl⟩ := h
        refine tri_new fun ρ w s hs => ?_
        obtain ⟨u, hu, rfl⟩ := hs
        simp only [VR] at hu
        obtain ⟨rfl, hl⟩ := hu
        obtain ⟨u, o, w', Q, g1, g2, g3, g4, g5⟩ := bytes_new (P := X.E.P) (w := w) h1 h2 h3 h4 hl
        exact ⟨u, o, w', Q, g1, g2, g3, g4, fun σ _ hr hq => g5 _ σ hr hq⟩
      · cases h
    · cases h
  · rename_i e x h1 h2
    split at h
    · rename_i h3
      simp only [Option.some.injEq, Prod.mk.injEq] at h
      obtain ⟨rfl, rfl⟩ := h
      refine tri_pure fun ρ w s hs => ?_
      obtain ⟨u, hu, rfl⟩ := hs
      simp only [VR] at hu
      subst hu
      refine ⟨.string (bs []), ?_, by simp [VR]⟩
      simp only [convert, Sem.run_bind, run_und h1, run_und h2, run_und h3, Result.andThen_ok]
      rfl
    · rename_i c h3
      simp only [Option.some.injEq, Prod.mk.injEq] at h
      obtain ⟨rfl, rfl⟩ := h
      refine tri_pure fun ρ w s hs => ?_
      obtain ⟨u, hu, rfl⟩ := hs
      simp only [VR] at hu
      obtain ⟨a, k, _, rfl⟩ := hu
      refine ⟨.string (bs []), ?_, by simp [VR]⟩
      simp only [convert, Sem.run_bind, run_und h1, run_und h2, run_und h3, Result.andThen_ok]
      exact bytes_run (r := []) (by rfl) k
    · rename_i b o n c h3
      split at h
      · rename_i l hr
        split at h
        · rename_i r hr2
          simp only [Option.some.injEq, Prod.mk.injEq] at h
          obtain ⟨rfl, rfl⟩ := h
          obtain ⟨cs, e', hb, hk, rfl⟩ := rdCells_inv hr
          refine tri_saw hb fun ρ w s m ob ha hr' hu hw hB => ?_
          obtain ⟨u, hv, rfl⟩ := ha
          simp only [VR] at hv
          obtain ⟨m', k, hm, _, _, _, rfl⟩ := hv
          obtain rfl := hu m' hm
          obtain ⟨us, g1, g2⟩ := rd_run (P := X.E.P) hk hw hB
          obtain ⟨g3, g4⟩ := ofCells_ok hr2 g2
          subst g3
          have hlen : r.length = n := by have := g2.len; simp at this; omega
          refine ⟨.string (bs r), ?_, by simp only [VR]; exact ⟨trivial, g4⟩⟩
          simp only [convert, Sem.run_bind, run_und h1, run_und h2, run_und h3, Result.andThen_ok]
          rw [← hlen]
          exact bytes_run (by rw [hlen]; exact g1) k
        · cases h
      · cases h
    · cases h
  · cases h

theorem ER.len : ∀ {es : List (SV × SV × Nat)} {l : List MapEntry}, ER ρ es l → l.length = es.length
  | [], l, h => by simp only [ER] at h; subst h; rfl
  | (x, v, b) :: es, l, h => by obtain ⟨e, r, rfl, _, _, _, hr⟩ := h; simp [hr.len]
theorem evLen_tri {S S' : St} {t : TypeId} {x v : SV} (ts : List TypeId) (rt : TypeId) (h : evLen X.E.P S t x = some (v, S')) : Tri X S S' v (fun ρ s => ∃ u, VR ρ x u ∧ s = Builtin.len_ (t :: ts).toArray rt #[u]) := by
  unfold evLen at h
  have key : ∀ (r : SV × St) (g : r = (v, S')) (hp : r.2 = S) (hr : ∀ ρ u w, VR ρ x u → ∃ q, (Builtin.len_ (t :: ts).toArray rt #[u]).run X.E.P w = .ok q w ∧ VR ρ r.1 q),
      Tri X S S' v (fun ρ s => ∃ u, VR ρ x u ∧ s = Builtin.len_ (t :: ts).toArray rt #[u]) := by
    intro r g hp hr
    subst g
    simp only at hp hr
    subst hp
    refine tri_pure fun ρ w s hs => ?_
    obtain ⟨u, hu, rfl⟩ := hs
    exact hr ρ u w hu
  split at h
  · rename_i l ht
    injection h with h
    refine key _ h rfl fun ρ u w hu => ?_
    simp only [VR] at hu
    obtain ⟨rfl, _⟩ := hu
    exact ⟨.int .i64 (bs l).size, by simp [Builtin.len_, run_und ht, goInt], by simp only [VR, bs_size]; rfl⟩
  · rename_i e ht
    injection h with h
    refine key _ h rfl fun ρ u w hu => ?_
    simp only [VR] at hu
    subst hu
    exact ⟨.int .i64 0, by simp [Builtin.len_, run_und ht, goInt], by simp only [VR]⟩
  · rename_i e c ht
    injection h with h
    refine key _ h rfl fun ρ u w hu => ?_
    simp only [VR] at hu
    obtain ⟨a, k, _, rfl⟩ := hu
    exact ⟨.int .i64 0, by simp [Builtin.len_, run_und ht, goInt], by simp only [VR]⟩
  · rename_i e b o n c ht
    injection h with h
    refine key _ h rfl fun ρ u w hu => ?_
    simp only [VR] at hu
    obtain ⟨m, k, _, _, _, _, rfl⟩ := hu
    exact ⟨.int .i64 n, by simp [Builtin.len_, run_und ht, goInt], by simp only [VR]; rfl⟩
  · rename_i n e ht
    injection h with h
    refine key _ h rfl fun ρ u w hu => ?_
    exact ⟨.int .i64 n, by simp [Builtin.len_, run_und ht, goInt], by simp only [VR]; rfl⟩
  · rename_i k e ht
    injection h with h
    refine key _ h rfl fun ρ u w hu => ?_
    simp only [VR] at hu
    subst hu
    exact ⟨.int .i64 0, by simp [Builtin.len_, run_und ht, goInt], by simp only [VR]⟩
  · rename_i k e b ht
    split at h
    · rename_i es c hb
      simp only [Option.some.injEq, Prod.mk.injEq] at h
      obtain ⟨rfl, rfl⟩ := h
      refine tri_saw hb fun ρ w s n ob ha hr hu hw hB => ?_
      obtain ⟨u, hv, rfl⟩ := ha
      simp only [VR] at hv
      obtain ⟨m, hm, rfl⟩ := hv
      obtain rfl := hu m hm
      obtain ⟨l, hl, rfl⟩ := hB
      refine ⟨.int .i64 l.length, ?_, by simp only [VR, hl.len]; rfl⟩
      simp [Builtin.len_, run_und ht, getObj, Sem.run, hw, goInt]
    · cases h
  · cases h
end
end Go.Proofs.YtndpcphmndfajaaGreatDoor

namespace Go.Proofs.YtndpcphmndfajaaGreatDoor
open Go.RowKit
set_option linter.unusedVariables false
set_option linter.unusedSimpArgs false

section
variable {X : Cx} {P : Program} {w : World} {ρ : Ren}

theorem wrap_small {n : Nat} (h : n < 9223372036854775808) : IntKind.i64.wrap (Int.ofNat n) = Int.ofNat n := by
  rw [← wrapE_eq]
  unfold wrapE lowN sgnN
  have e1 : Nat.mod n (modN .i64) = n := by show n % 18446744073709551616 = n; omega
  simp only [e1]
  have : Nat.ble (halfN .i64) n = false := by
    rcases e : Nat.ble (halfN .i64) n with _ | _
    · rfl
    · have h1 : 9223372036854775808 ≤ n := Nat.le_of_ble_eq_true e
      omega
  rw [this]

theorem msO_inv {a b : Option SV} {ez : Option (TypeId × Nat)} {S : St} {r : SV × St} (h : msO a b ez P S = some r) :
    ∃ k l k' c e n, a = some (.i k (.ofNat l)) ∧ b = some (.i k' (.ofNat c)) ∧ ez = some (e, n) ∧ msT (zeroT P e) (P.info? e) e n l c S = some r := by
  unfold msO at h
  split at h
  · exact ⟨_, _, _, _, _, _, rfl, rfl, rfl, h⟩
  · cases h
set_option maxRecDepth 20000 in
theorem evMake_tri {S S' : St} {t : TypeId} {x y v : SV} (h : msO (some x) (some y) (elemT X.E.P t) X.E.P S = some (v, S')) :
    Tri X S S' v (fun ρ s => ∃ u u', VR ρ x u ∧ VR ρ y u' ∧ s = Instr.makeSlice t u u') := by
  obtain ⟨k, l, k', c, e, n, e1, e2, he, g⟩ := msO_inv h
  clear h
  injection e1 with e1
  injection e2 with e2
  subst e1; subst e2
  obtain ⟨ht, hn⟩ := elemT_und he
  cases hz : zeroT X.E.P e with
  | none => rw [hz] at g; cases g
  | some z =>
    cases hi : X.E.P.info? e with
    | none => rw [hz, hi] at g; cases g
    | some info =>
      rw [hz, hi] at g
      simp only [msT] at g
      cases hk : (Nat.beq z.length n && Nat.blt 0 n && Nat.ble c 1048576 && Nat.ble l c && Nat.ble info.bytes 1024) with
      | false => rw [hk] at g; cases g
      | true =>
        rw [hk] at g
        simp only [Bool.and_eq_true] at hk
        obtain ⟨⟨⟨⟨h1, h2⟩, h3⟩, h4⟩, h5⟩ := hk
        have h1 := Nat.eq_of_beq_eq_true h1
        have h2 := blt_t h2
        have h3 := Nat.le_of_ble_eq_true h3
        have h4 := Nat.le_of_ble_eq_true h4
        have h5 := Nat.le_of_ble_eq_true h5
        simp only [msK, Option.some.injEq, Prod.mk.injEq] at g
        obtain ⟨rfl, rfl⟩ := g
        refine tri_new fun ρ w s hs => ?_
        obtain ⟨u, u', hu, hu', rfl⟩ := hs
        simp only [VR] at hu hu'
        subst hu; subst hu'
        obtain ⟨zv, h6, h7⟩ := run_zero (w := w) (ρ := ρ) hz
        have hl := h7.len
        have hsz : zv.cells.size = n := by rw [← Array.length_toList, hl, h1]
        have hrow := rep_rows zv.cells (by omega) c
        rw [hsz] at hrow
        refine ⟨.slice (some ⟨w.heap.size, 0, none⟩) l c, .cells ((List.replicate c zv.cells.toList).flatten).toArray e (0, 0), { w with heap := w.heap.push (.cells ((List.replicate c zv.cells.toList).flatten).toArray e (0, 0)) }, fun _ => False, ?_, rfl, ⟨rfl, rfl, rfl⟩, room_no, fun σ hσ hr _ => ⟨?_, br_cells ((h7.rep c).mono hσ)⟩⟩
        · have hw1 : IntKind.i64.wrap (Int.ofNat l) = Int.ofNat l := wrap_small (by omega)
          have hw2 : IntKind.i64.wrap (Int.ofNat c) = Int.ofNat c := wrap_small (by omega)
          have hb : (info.bytes : Int) * Int.ofNat c ≤ ((1073741824 : Nat) : Int) := by
            have : info.bytes * c ≤ 1073741824 := Nat.mul_le_mul h5 h3
            exact Int.ofNat_le.2 this
          simp only [Instr.makeSlice, asInt, asIntOf, Sem.run_bind, Sem.run_pure, run_und ht, run_info hi, Result.andThen_ok]
          simp only [hw1, hw2]
          rw [if_neg (by
            intro hh
            rcases Bool.or_eq_true_iff.1 hh with hh | hh
            · rcases Bool.or_eq_true_iff.1 hh with hh | hh
              · rcases Bool.or_eq_true_iff.1 hh with hh | hh
                · exact absurd (of_decide_eq_true hh) (by have e0 : Int.ofNat c = (c : Int) := rfl; rw [e0]; omega)
                · have hh := of_decide_eq_true hh
                  have : (2 : Int) ^ 48 = 281474976710656 := by decide
                  omega
              · exact absurd (of_decide_eq_true hh) (by have e0 : Int.ofNat l = (l : Int) := rfl; rw [e0]; omega)
            · have hh := of_decide_eq_true hh
              have e0 : Int.ofNat c = (c : Int) := rfl
              have e1 : Int.ofNat l = (l : Int) := rfl
              rw [e0, e1] at hh
              omega)]
          have e5 : (Int.ofNat c).toNat = c := rfl
          have e6 : (Int.ofNat l).toNat = l := rfl
          simp only [Sem.run_bind, Sem.run_pure, run_askRoom, Result.andThen_ok, run_size hn, e5, e6]
          by_cases h0 : c * n = 0
          · have hc0 : c = 0 := by
              rcases Nat.mul_eq_zero.1 h0 with h | h
              · exact h
              · omega
            subst hc0
            simp only [Nat.zero_mul, if_true, Sem.run_pure, Result.andThen_ok, newRow, Sem.run_bind, run_newObj, List.replicate_zero, List.flatten_nil]
            congr 2
            have : (Array.range 0) = #[] := rfl
            simp [this]
          · rw [if_neg h0]
            simp only [Sem.run_bind, h6, Sem.run_pure, Result.andThen_ok, hsz, hrow, newRow, run_newObj]
        · simp only [VR]
          exact ⟨_, c, hr, h4, fun _ e => (by cases e; rfl), (fun e => by cases e), rfl⟩

theorem evMakeMap_tri {S : St} {t : TypeId} : Tri X S (S.new (.map [] 0)) (.m S.c) (fun ρ s => s = Instr.makeMap t none) := by
  refine tri_new fun ρ w s hs => ?_
  subst hs
  refine ⟨.map (some w.heap.size), .map #[] 0, { w with heap := w.heap.push (.map #[] 0) }, fun _ => False, ?_, rfl, ⟨rfl, rfl, rfl⟩, room_no, fun σ hσ hr _ => ⟨?_, [], rfl, rfl⟩⟩
  · simp [Instr.makeMap]
  · simp only [VR]; exact ⟨_, hr, rfl⟩

/-! ### Texts that are ranged over -/
theorem evRange_tri {S : St} {t : TypeId} {l : List Nat} (ht : X.E.P.underlying t = some .string) : Tri X S (S.new (.it l 0)) (.p S.c 0) (fun ρ s => ∃ u, VR ρ (.s l) u ∧ s = Instr.range t u) := by
  refine tri_new fun ρ w s hs => ?_
  obtain ⟨u, hu, rfl⟩ := hs
  simp only [VR] at hu
  obtain ⟨rfl, hl⟩ := hu
  refine ⟨.pointer (some ⟨w.heap.size, 0, none⟩), .stringIter (bs l) 0, { w with heap := w.heap.push (.stringIter (bs l) 0) }, fun _ => False, ?_, rfl, ⟨rfl, rfl, rfl⟩, room_no, fun σ hσ hr _ => ⟨?_, rfl, hl⟩⟩
  · simp [Instr.range, run_und ht]
  · simp only [VR]; exact ⟨_, hr, rfl⟩
theorem evNext_tri {S S' : St} {x v : SV} (ty : TypeId) (h : evNext X.E.ng S x = some (v, S')) : Tri X S S' v (fun ρ s => ∃ u, VR ρ x u ∧ s = Instr.next u true ty) := by
  unfold evNext at h
  split at h
  · rename_i b
    split at h
    · rename_i l pos hb
      split at h
      · rename_i hng
        have hng := Nat.le_of_ble_eq_true hng
        split at h
        · rename_i hp
          have hp := blt_t hp
          simp only [Option.some.injEq, Prod.mk.injEq] at h
          obtain ⟨rfl, rfl⟩ := h
          refine tri_wr hb hng fun ρ w s n ob ha hr hu hw hB => ?_
          obtain ⟨u, hv, rfl⟩ := ha
          simp only [VR] at hv
          obtain ⟨m, hm, rfl⟩ := hv
          obtain rfl := hu m hm
          obtain ⟨rfl, hl⟩ := hB
          refine ⟨.tuple #[.bool true, goInt pos, .int .i32 (decL l pos).1], { w with heap := w.heap.setIfInBounds m (.stringIter (bs l) (pos + (decL l pos).2)) }, .stringIter (bs l) (pos + (decL l pos).2), ?_, rfl, ⟨rfl, rfl, rfl⟩, ?_, ⟨rfl, hl⟩, fun _ _ e => by cases e⟩
          · have hs : pos < (bs l).size := by rw [bs_size]; exact hp
            simp only [Instr.next, getObj, setObj, Sem.run_bind, Sem.run, hw, Result.andThen_ok, hs, if_true]
            rfl
          · simp only [VR]
            exact ⟨[.bool true, goInt pos, .int .i32 (decL l pos).1], vrs_cons.2 ⟨by simp only [VR], vrs_cons.2 ⟨by simp only [VR]; rfl, vrs_cons.2 ⟨by simp only [VR]; rfl, vrs_nil.2 rfl⟩⟩⟩, rfl⟩
        · rename_i hp
          have hp := blt_f hp
          simp only [Option.some.injEq, Prod.mk.injEq] at h
          obtain ⟨rfl, rfl⟩ := h
          refine tri_saw hb fun ρ w s n ob ha hr hu hw hB => ?_
          obtain ⟨u, hv, rfl⟩ := ha
          simp only [VR] at hv
          obtain ⟨m, hm, rfl⟩ := hv
          obtain rfl := hu m hm
          obtain ⟨rfl, hl⟩ := hB
          refine ⟨.tuple #[.bool false], ?_, ?_⟩
          · have hs : ¬ pos < (bs l).size := by rw [bs_size]; exact hp
            simp only [Instr.next, getObj, Sem.run_bind, Sem.run, hw, Result.andThen_ok, hs, if_false]
            rfl
          · simp only [VR]
            exact ⟨[.bool false], vrs_cons.2 ⟨by simp only [VR], vrs_nil.2 rfl⟩, rfl⟩
      · cases h
    · cases h
  · cases h

/-! ### Maps -/
theorem sameNow_ok {t : TypeId} {d : TypeDesc} {k u : Value} {b : Bool} (ht : P.underlying t = some d) (h : Instr.sameNow d k u = some b) : (Op.equal t k u).run P w = .ok b w := by
  unfold Op.equal Op.maxDepth
  unfold Instr.sameNow at h
  split at h
  · rename_i k1 k2 a k3 b'
    split at h
    · rename_i hk
      subst hk
      simp only [Option.some.injEq] at h
      subst h
      exact run_equalIn_int w 9999 t _ _ _ _ ht
    · cases h
  · rename_i a b'
    simp only [Option.some.injEq] at h
    subst h
    rw [beq_toListBytes]
    exact run_equalIn_string w 9999 t _ _ ht
  · rename_i a b'
    simp only [Option.some.injEq] at h
    subst h
    exact run_equalIn_bool' w 9999 t _ _ ht
  · cases h
theorem findNow_ok {t : TypeId} {d : TypeDesc} {k : Value} (ht : P.underlying t = some d) : ∀ {es : List MapEntry} {i : Nat} {r : Option (Nat × Value)}, Instr.findNow d k es i = some r → (Instr.findAsking t k es i).run P w = .ok r w
  | [], i, r, h => by simp only [Instr.findNow, Option.some.injEq] at h; subst h; rfl
  | e :: es, i, r, h => by
    unfold Instr.findNow at h
    split at h
    · rename_i hs
      simp only [Option.some.injEq] at h
      subst h
      simp only [Instr.findAsking, Sem.run_bind, sameNow_ok ht hs, Result.andThen_ok, if_true]
      rfl
    · rename_i hs
      simp only [Instr.findAsking, Sem.run_bind, sameNow_ok ht hs, Result.andThen_ok, Bool.false_eq_true, if_false]
      exact findNow_ok ht h
    · cases h
theorem findKey_eq {t : TypeId} {d : TypeDesc} {k : Value} {es : List MapEntry} {r : Option (Nat × Value)} (ht : P.underlying t = some d) (h : (Instr.findAsking t k es 0).run P w = .ok r w) : (Instr.findKey t k es).run P w = .ok r w := by
  simp only [Instr.findKey, Sem.run_bind, run_und ht, Result.andThen_ok]
  cases hn : Instr.findNow d k es 0 with
  | none => exact h
  | some q =>
    have := findNow_ok (P := P) (w := w) ht hn
    rw [h] at this
    injection this with e1
    rw [e1]
    rfl
theorem findE_ok {t : TypeId} {k : SV} {kv : Value} (hk : VR ρ k kv) : ∀ {es : List (SV × SV × Nat)} {l : List MapEntry} {i : Nat} {r : Option (Nat × SV)}, findE P t k es i = some r → ER ρ es l →
    ∃ r', (Instr.findAsking t kv l i).run P w = .ok r' w ∧ (r = none → r' = none) ∧ ∀ j v, r = some (j, v) → ∃ v', r' = some (j, v') ∧ VR ρ v v'
  | [], l, i, r, h, he => by
    simp only [ER] at he
    subst he
    simp only [findE, Option.some.injEq] at h
    subst h
    exact ⟨none, rfl, fun _ => rfl, fun _ _ e => by cases e⟩
  | (x, v, b) :: es, l, i, r, h, he => by
    obtain ⟨e, rs, rfl, h1, h2, h3, h4⟩ := he
    unfold findE at h
    split at h
    · rename_i hq
      simp only [Option.some.injEq] at h
      subst h
      have := equal_ok (w := w) hq hk h1 (by omega)
      refine ⟨some (i, e.val), by simp only [Instr.findAsking, Sem.run_bind, this, Result.andThen_ok, if_true]; rfl, (fun e => by cases e), fun j v' hj => ?_⟩
      injection hj with hj
      injection hj with e1 e2
      subst e1; subst e2
      exact ⟨e.val, rfl, h2⟩
    · rename_i hq
      have := equal_ok (w := w) hq hk h1 (by omega)
      obtain ⟨r', g1, g2⟩ := findE_ok hk h h4
      refine ⟨r', ?_, g2⟩
      simp only [Instr.findAsking, Sem.run_bind, this, Result.andThen_ok, Bool.false_eq_true, if_false]
      exact g1
    · cases h

theorem allInts_get : ∀ {l : List SV} {us : List Value}, allInts l = true → VRs ρ l us → ∀ u ∈ us, ∃ k n, u = .int k n
  | [], us, _, h => by rw [vrs_nil] at h; subst h; simp
  | x :: l, [], _, h => by simp
  | x :: l, v :: us, ha, h => by
    rw [vrs_cons] at h
    cases x <;> simp only [allInts, Bool.false_eq_true] at ha
    rename_i k n
    intro u hu
    rcases List.mem_cons.1 hu with rfl | hu
    · have := h.1
      simp only [VR] at this
      exact ⟨k, n, this⟩
    · exact allInts_get ha h.2 u hu
theorem key_run {t : TypeId} {k : SV} {kv : Value} {b : Bool} (h : keyOk P t k = true) (hk : VR ρ k kv) : (Instr.checkKey b 10000 t kv).run P w = .ok () w := by
  have hint : ∀ (n : Nat) (t : TypeId) (kk : IntKind) (k : IntKind) (m : Int), P.underlying t = some (.int kk) → (Instr.checkKey b (n + 1) t (.int k m)).run P w = .ok () w := by
    intro n t kk k m ht
    simp [Instr.checkKey, run_und ht]
  unfold keyOk at h
  split at h
  · rename_i kk k n ht
    simp only [VR] at hk
    subst hk
    exact hint 9999 t kk k n ht
  · rename_i l ht
    simp only [VR] at hk
    obtain ⟨rfl, _⟩ := hk
    have hstr : ∀ n, (Instr.checkKey b (n + 1) t (.string (bs l))).run P w = .ok () w := fun n => by simp [Instr.checkKey, run_und ht]
    exact hstr 9999
  · rename_i n e l ht
    simp only [Bool.and_eq_true] at h
    obtain ⟨⟨⟨h1, h2⟩, h3⟩, h4⟩ := h
    have h2 := Nat.eq_of_beq_eq_true h2
    simp only [VR] at hk
    obtain ⟨us, hus, rfl⟩ := hk
    split at h3
    · rename_i kk he
      split at h4
      · rename_i hs
        have hag : aggT P e = some false := by simp [aggT, he]
        have hlen := hus.len
        have harr : ∀ q, (∀ k m, (Instr.checkKey b q e (.int k m)).run P w = .ok () w) → (Instr.checkKey b (q + 1) t (.agg us.toArray)).run P w = .ok () w := fun q hq => by
          simp only [Instr.checkKey, Sem.run_bind, run_und ht, Result.andThen_ok, Std.Legacy.Range.forIn_eq_forIn_range', Std.Legacy.Range.size, Nat.sub_zero, Nat.add_sub_cancel, Nat.div_one, Nat.add_one_sub_one]
          have : ∀ is : List Nat, (∀ i ∈ is, i < us.length) → (forIn is PUnit.unit (fun i (r : PUnit) => do
            Instr.checkKey b q e (← part e us.toArray (i * (← sizeOf e)))
            pure (ForInStep.yield PUnit.unit))).run P w = .ok PUnit.unit w := by
            intro is
            induction is with
            | nil => intro _; simp
            | cons i is ih =>
              intro hi
              have hlt := hi i (by simp)
              obtain ⟨k, m, hm⟩ := allInts_get h1 hus (us[i]) (List.getElem_mem hlt)
              have hp : (part e us.toArray (i * 1)).run P w = .ok (.int k m) w := by
                simp [part, run_agg hag, hlt, hm]
              simp only [List.forIn_cons, Sem.run_bind, run_size hs, Result.andThen_ok, hp, hq, Sem.run_pure]
              exact ih fun j hj => hi j (by simp [hj])
          have hfin := this (List.range' 0 n) (fun i hi => by simp at hi; omega)
          rw [hfin]
          rfl
        exact harr 9999 (fun k m => hint 9998 e kk k m he)
      · cases h4
    · cases h3
  · cases h
end
end Go.Proofs.YtndpcphmndfajaaGreatDoor
