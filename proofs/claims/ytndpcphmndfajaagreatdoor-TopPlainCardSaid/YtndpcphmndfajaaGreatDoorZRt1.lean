/- normal.Right at the law's options: walked. | file.Tree in memory. | file.parseText, walked: plain texts that have no form. -/
import Derived.Test.YtndpcphmndfajaaGreatDoorZLow
import Derived.Laws.CopyOwn
import Derived.Test.YtndpcphmndfajaaGreatDoorZOct1

namespace Go.Proofs.YtndpcphmndfajaaGreatDoor
open Go.RowKit
set_option linter.unusedVariables false
set_option linter.unusedSimpArgs false

set_option maxRecDepth 100000 in
theorem known_any (k : Nat) (w : World) (h1 : 4 ≤ k) (h2 : k ≤ 7) : Calls Tryz.prog 12 #[.int .i64 k] w fun e w' => e = .returned (.bool true) ∧ w = w' := by
  have i1 : (1 : Int) ≤ (k : Int) := by omega
  have i2 : (k : Int) ≤ 7 := by omega
  go_enter Tryz.func12, Tryz.ntmps12
  go_wp2
  go_ret
  exact ⟨rfl, rfl⟩
set_option maxRecDepth 100000 in
theorem legacy_any (c : Nat) (w : World) (h : c ≤ 6) : Calls Tryz.prog 13 #[.int .i64 c] w fun e w' => e = .returned (.bool true) ∧ w = w' := by
  have i1 : (0 : Int) ≤ (c : Int) := by omega
  have i2 : (c : Int) ≤ 6 := by omega
  go_enter Tryz.func13, Tryz.ntmps13
  go_wp2
  go_ret
  exact ⟨rfl, rfl⟩
set_option maxHeartbeats 1000000 in
set_option maxRecDepth 100000 in
theorem right_any (k c : Nat) (d : Bool) (w : World) (h1 : 4 ≤ k) (h2 : k ≤ 7) (hc : c ≤ 6) : Calls Tryz.prog 8 #[.agg #[.int .i64 k, .int .i64 c, .bool d, .int .i64 0]] w fun e w' => e = .returned (.bool true) ∧ Below w.heap.size w w' := by
  have HK := Lib.hid (fun w => known_any k w h1 h2)
  have HL := Lib.hid (fun w => legacy_any c w hc)
  have j0 : ((k : Int) == 0) = false := by simp only [beq_eq_false_iff_ne, ne_eq]; omega
  go_enter Tryz.func8, Tryz.ntmps8
  go_wp2_with (first | (go_at_call 12; refine (HK.out _).mono ?_; rintro e w1 ⟨rfl, rfl⟩) | (go_at_call 13; refine (HL.out _).mono ?_; rintro e w2 ⟨rfl, rfl⟩))
  go_ret
  exact ⟨rfl, (Below.refl _ _).alloc (Nat.le_refl _) _⟩
end Go.Proofs.YtndpcphmndfajaaGreatDoor

namespace Go.Proofs.YtndpcphmndfajaaGreatDoor
open Go.RowKit
set_option linter.unusedVariables false

/-- a tree's cells: its kind, its pieces, its charset; all else is nought -/
def treeC (k : Int) (v : Value) (s : Int) : Array Value := #[.int .i64 k, .int .i64 0, .int .u8 0, .int .u8 0, .slice none 0 0, .string ⟨#[]⟩, .int .u8 0, .int .u64 0, .int .u32 0, .int .u32 0, .string ⟨#[]⟩, .string ⟨#[]⟩, .string ⟨#[]⟩, .int .i64 0, .slice none 0 0, .string ⟨#[]⟩, .slice none 0 0, .slice none 0 0, .string ⟨#[]⟩, .int .i64 0, .slice none 0 0, .int .i64 0, .string ⟨#[]⟩, v, .int .i64 s]
theorem treeC_is (k : Int) (v : Value) (s : Int) : #[.int .i64 k, .int .i64 0, .int .u8 0, .int .u8 0, .slice none 0 0, .string ⟨#[]⟩, .int .u8 0, .int .u64 0, .int .u32 0, .int .u32 0, .string ⟨#[]⟩, .string ⟨#[]⟩, .string ⟨#[]⟩, .int .i64 0, .slice none 0 0, .string ⟨#[]⟩, .slice none 0 0, .slice none 0 0, .string ⟨#[]⟩, .int .i64 0, .slice none 0 0, .int .i64 0, .string ⟨#[]⟩, v, .int .i64 s] = treeC k v s := rfl
theorem treeC_size (k : Int) (v : Value) (s : Int) : (treeC k v s).size = 25 := rfl
theorem treeC_one (k : Int) (v : Value) (s : Int) (h : v.oneCell' = true) : (treeC k v s).all (·.oneCell') = true := by simp [treeC, Value.oneCell'] at h ⊢; exact h
theorem Recs.setRow {w : World} {base e size b : Nat} {v : Value} {L : List (List Value)} (h : Recs w base e size v L) (hb : b < base) (C : Array Value) : Recs (w.setRow b C) base e size v L := by
  refine ⟨h.1, h.2.1, ?_⟩
  rcases h.2.2 with hn | ⟨g, cap, cur, hv, hbs, hg, rest⟩
  · exact .inl hn
  · exact .inr ⟨g, cap, cur, hv, hbs, (setRow_other w b g C (by omega)).trans hg, rest⟩
/-- a struct stored, all its cells -/
def putT (w : World) (b : Nat) (C : Array Value) : World := stores w b 0 C.toList
theorem putT_is (w : World) (b : Nat) (v0 v1 v2 v3 v4 v5 v6 v7 v8 v9 v10 v11 v12 v13 v14 v15 v16 v17 v18 v19 v20 v21 v22 v23 v24 : Value) : ((((((((((((((((((((((((((((((((((((((((((((((((((w).setCell ⟨b, 0, none⟩ v0)).setCell ⟨b, 1, none⟩ v1)).setCell ⟨b, 2, none⟩ v2)).setCell ⟨b, 3, none⟩ v3)).setCell ⟨b, 4, none⟩ v4)).setCell ⟨b, 5, none⟩ v5)).setCell ⟨b, 6, none⟩ v6)).setCell ⟨b, 7, none⟩ v7)).setCell ⟨b, 8, none⟩ v8)).setCell ⟨b, 9, none⟩ v9)).setCell ⟨b, 10, none⟩ v10)).setCell ⟨b, 11, none⟩ v11)).setCell ⟨b, 12, none⟩ v12)).setCell ⟨b, 13, none⟩ v13)).setCell ⟨b, 14, none⟩ v14)).setCell ⟨b, 15, none⟩ v15)).setCell ⟨b, 16, none⟩ v16)).setCell ⟨b, 17, none⟩ v17)).setCell ⟨b, 18, none⟩ v18)).setCell ⟨b, 19, none⟩ v19)).setCell ⟨b, 20, none⟩ v20)).setCell ⟨b, 21, none⟩ v21)).setCell ⟨b, 22, none⟩ v22)).setCell ⟨b, 23, none⟩ v23)).setCell ⟨b, 24, none⟩ v24) = putT w b #[v0, v1, v2, v3, v4, v5, v6, v7, v8, v9, v10, v11, v12, v13, v14, v15, v16, v17, v18, v19, v20, v21, v22, v23, v24] := rfl
theorem stores_only : ∀ (vs : List Value) (k : Nat) (w : World) (b : Nat), Only b w (stores w b k vs)
  | [], _, w, b => Only.refl b w
  | v :: vs, k, w, b => (Only.set v).trans (stores_only vs (k + 1) _ b)
theorem putT_only (w : World) (b : Nat) (C : Array Value) : Only b w (putT w b C) := stores_only _ _ _ _
theorem putT_at {w : World} {b : Nat} {C0 C : Array Value} {e : TypeId} (h : w.heap[b]? = some (.cells C0 e (0, 0))) (hs : C0.size = C.size) : (putT w b C).heap[b]? = some (.cells C e (0, 0)) := by
  have := stores_all C.toList h (by simpa using hs)
  simpa [putT] using this
/-- two results that lie in memory -/
theorem end_cc {P : Program} {fn : Func} {R : Ending → World → Prop} {a : Act} {w : World} {p1 p2 : Tmp} {ty1 ty2 t1 t2 : TypeId} {b1 b2 : Nat} {C1 C2 : Array Value} {d1 d2 : TypeDesc}
    (h : fn.results = #[.cell p1 ty1, .cell p2 ty2]) (hd0 : a.defers = []) (hp1 : a.tmps.getD p1 undef = .pointer (some ⟨b1, 0, none⟩)) (hg1 : w.heap[b1]? = some (.cells C1 t1 (0, 0)))
    (hu1 : P.underlying ty1 = some d1) (hd1 : (match d1 with | .struct _ | .array _ _ => true | _ => false) = true) (hi1 : (P.info? ty1).map (·.size) = some C1.size)
    (hp2 : a.tmps.getD p2 undef = .pointer (some ⟨b2, 0, none⟩)) (hg2 : w.heap[b2]? = some (.cells C2 t2 (0, 0)))
    (hu2 : P.underlying ty2 = some d2) (hd2 : (match d2 with | .struct _ | .array _ _ => true | _ => false) = true) (hi2 : (P.info? ty2).map (·.size) = some C2.size)
    (hR : R (.returned (.tuple #[.agg C1, .agg C2])) w) : bodyPost P fn R .ret a w := by
  refine bodyPost_ret (v := .tuple #[.agg C1, .agg C2]) ?_ hd0 hR
  have hp1' : a.tmps[p1]?.getD undef = .pointer (some ⟨b1, 0, none⟩) := by simpa using hp1
  have hp2' : a.tmps[p2]?.getD undef = .pointer (some ⟨b2, 0, none⟩) := by simpa using hp2
  simp only [results, h]
  simp [hp1', hp2', asAddr, run_loadVar_row w b1 t1 ty1 C1 (0, 0) d1 hg1 hu1 hd1 hi1, run_loadVar_row w b2 t2 ty2 C2 (0, 0) d2 hg2 hu2 hd2 hi2]
theorem at_b0 (w : World) (C : Array Value) (T : TypeId) (o1 o2 : Obj) : (((w.alloc (.cells C T)).alloc o1).alloc o2).heap[w.heap.size]? = some (.cells C T (0, 0)) := by
  rw [heap_alloc_old _ o2 (by simp; omega)]; exact at_a1 w C T o1
theorem at_b1 (w : World) (C : Array Value) (T : TypeId) (o1 o2 : Obj) : (((w.alloc o1).alloc (.cells C T)).alloc o2).heap[w.heap.size + 1]? = some (.cells C T (0, 0)) := by
  rw [heap_alloc_old _ o2 (by simp)]; exact at_a2 w C T o1
theorem at_b2 (w : World) (C : Array Value) (T : TypeId) (o1 o2 : Obj) : (((w.alloc o1).alloc o2).alloc (.cells C T)).heap[w.heap.size + 1 + 1]? = some (.cells C T (0, 0)) := by
  have h := heap_alloc_new ((w.alloc o1).alloc o2) (.cells C T)
  simpa using h
theorem bel_b3 (w : World) (o1 o2 o3 : Obj) : Below w.heap.size w (((w.alloc o1).alloc o2).alloc o3) := by
  have h1 := (Below.refl w.heap.size w).alloc (Nat.le_refl _) o1
  have h2 := h1.alloc h1.size o2
  exact h2.alloc h2.size o3
theorem treeCells {w : World} {b : Nat} {k s : Int} {v : Value} {e : TypeId} (h : w.heap[b]? = some (.cells (treeC k v s) e (0, 0))) : w.cell? ⟨b, 0, none⟩ = some (.int .i64 k) ∧ w.cell? ⟨b, 1, none⟩ = some (.int .i64 0) ∧ w.cell? ⟨b, 2, none⟩ = some (.int .u8 0) ∧ w.cell? ⟨b, 3, none⟩ = some (.int .u8 0) ∧ w.cell? ⟨b, 4, none⟩ = some (.slice none 0 0) ∧ w.cell? ⟨b, 5, none⟩ = some (.string ⟨#[]⟩) ∧ w.cell? ⟨b, 6, none⟩ = some (.int .u8 0) ∧ w.cell? ⟨b, 7, none⟩ = some (.int .u64 0) ∧ w.cell? ⟨b, 8, none⟩ = some (.int .u32 0) ∧ w.cell? ⟨b, 9, none⟩ = some (.int .u32 0) ∧ w.cell? ⟨b, 10, none⟩ = some (.string ⟨#[]⟩) ∧ w.cell? ⟨b, 11, none⟩ = some (.string ⟨#[]⟩) ∧ w.cell? ⟨b, 12, none⟩ = some (.string ⟨#[]⟩) ∧ w.cell? ⟨b, 13, none⟩ = some (.int .i64 0) ∧ w.cell? ⟨b, 14, none⟩ = some (.slice none 0 0) ∧ w.cell? ⟨b, 15, none⟩ = some (.string ⟨#[]⟩) ∧ w.cell? ⟨b, 16, none⟩ = some (.slice none 0 0) ∧ w.cell? ⟨b, 17, none⟩ = some (.slice none 0 0) ∧ w.cell? ⟨b, 18, none⟩ = some (.string ⟨#[]⟩) ∧ w.cell? ⟨b, 19, none⟩ = some (.int .i64 0) ∧ w.cell? ⟨b, 20, none⟩ = some (.slice none 0 0) ∧ w.cell? ⟨b, 21, none⟩ = some (.int .i64 0) ∧ w.cell? ⟨b, 22, none⟩ = some (.string ⟨#[]⟩) ∧ w.cell? ⟨b, 23, none⟩ = some (v) ∧ w.cell? ⟨b, 24, none⟩ = some (.int .i64 s) :=
  ⟨(cell_at h).trans rfl, (cell_at h).trans rfl, (cell_at h).trans rfl, (cell_at h).trans rfl, (cell_at h).trans rfl, (cell_at h).trans rfl, (cell_at h).trans rfl, (cell_at h).trans rfl, (cell_at h).trans rfl, (cell_at h).trans rfl, (cell_at h).trans rfl, (cell_at h).trans rfl, (cell_at h).trans rfl, (cell_at h).trans rfl, (cell_at h).trans rfl, (cell_at h).trans rfl, (cell_at h).trans rfl, (cell_at h).trans rfl, (cell_at h).trans rfl, (cell_at h).trans rfl, (cell_at h).trans rfl, (cell_at h).trans rfl, (cell_at h).trans rfl, (cell_at h).trans rfl, (cell_at h).trans rfl⟩
theorem treeFrees {w : World} {b : Nat} {C : Array Value} {e : TypeId} (h : w.heap[b]? = some (.cells C e (0, 0))) : w.frozen? ⟨b, 0, none⟩ = false ∧ w.frozen? ⟨b, 1, none⟩ = false ∧ w.frozen? ⟨b, 2, none⟩ = false ∧ w.frozen? ⟨b, 3, none⟩ = false ∧ w.frozen? ⟨b, 4, none⟩ = false ∧ w.frozen? ⟨b, 5, none⟩ = false ∧ w.frozen? ⟨b, 6, none⟩ = false ∧ w.frozen? ⟨b, 7, none⟩ = false ∧ w.frozen? ⟨b, 8, none⟩ = false ∧ w.frozen? ⟨b, 9, none⟩ = false ∧ w.frozen? ⟨b, 10, none⟩ = false ∧ w.frozen? ⟨b, 11, none⟩ = false ∧ w.frozen? ⟨b, 12, none⟩ = false ∧ w.frozen? ⟨b, 13, none⟩ = false ∧ w.frozen? ⟨b, 14, none⟩ = false ∧ w.frozen? ⟨b, 15, none⟩ = false ∧ w.frozen? ⟨b, 16, none⟩ = false ∧ w.frozen? ⟨b, 17, none⟩ = false ∧ w.frozen? ⟨b, 18, none⟩ = false ∧ w.frozen? ⟨b, 19, none⟩ = false ∧ w.frozen? ⟨b, 20, none⟩ = false ∧ w.frozen? ⟨b, 21, none⟩ = false ∧ w.frozen? ⟨b, 22, none⟩ = false ∧ w.frozen? ⟨b, 23, none⟩ = false ∧ w.frozen? ⟨b, 24, none⟩ = false :=
  ⟨free_at h, free_at h, free_at h, free_at h, free_at h, free_at h, free_at h, free_at h, free_at h, free_at h, free_at h, free_at h, free_at h, free_at h, free_at h, free_at h, free_at h, free_at h, free_at h, free_at h, free_at h, free_at h, free_at h, free_at h, free_at h⟩
end Go.Proofs.YtndpcphmndfajaaGreatDoor

namespace Go.Proofs.YtndpcphmndfajaaGreatDoor
open Go.RowKit
set_option linter.unusedVariables false
set_option linter.unusedSimpArgs false

def optA (k c : Nat) (d : Bool) : Array Value := #[.int .i64 k, .int .i64 c, .bool d, .int .i64 0]
/-- what parseText's calls tell -/
structure PtSays (k c : Nat) (d : Bool) (t : List UInt8) : Prop where
  mark : ∀ w, Calls Tryz.prog 53 #[.string ⟨t.toArray⟩] w fun e w' => e = .returned (.tuple #[.int .i64 0, .int .i64 0]) ∧ w = w'
  decl : ∀ w, Calls Tryz.prog 55 #[.int .i64 k, .string ⟨t.toArray⟩] w fun e w' => (∃ x : List UInt8, e = .returned (.string ⟨x.toArray⟩)) ∧ Below w.heap.size w w'
  reso : ∀ (x : List UInt8) w, Calls Tryz.prog 54 #[.string ⟨t.toArray⟩, .string ⟨x.toArray⟩, .agg #[.int .i64 k, .int .i64 c, .bool d, .int .i64 0]] w fun e w' => e = .returned (.int .i64 7) ∧ Below w.heap.size w w'
  deco : ∀ w, Calls Tryz.prog 56 #[.int .i64 7, .string ⟨t.toArray⟩] w fun e w' => e = .returned (.tuple #[.string ⟨t.toArray⟩, .agg #[.int .i64 0, .int .i64 0]]) ∧ Below w.heap.size w w'

set_option maxHeartbeats 4000000 in
set_option maxRecDepth 100000 in
theorem ptext_bad (k c a : Nat) (d : Bool) (t : List UInt8) (w : World) (H : PtSays k c d t)
    (HP : Hid (∀ w1, Below w.heap.size w w1 → Calls Tryz.prog 57 #[.int .i64 k, .string ⟨t.toArray⟩] w1 fun e w' => e = .returned (.tuple #[.slice none 0 0, .agg #[.int .i64 1, .int .i64 a]]) ∧ Below w1.heap.size w1 w')) :
    Calls Tryz.prog 18 #[.int .i64 k, .string ⟨t.toArray⟩, .agg #[.int .i64 k, .int .i64 c, .bool d, .int .i64 0]] w fun e w' =>
      e = .returned (.tuple #[.agg (treeC 0 (.slice none 0 0) 0), .agg #[.int .i64 1, .int .i64 a]]) ∧ Below w.heap.size w w' := by
  have HM := Lib.hid H.mark
  have HS := Lib.hid H.decl
  have HR := Lib.hid H.reso
  have HD := Lib.hid H.deco
  have B0 := Lib.hid (fun w => bad_any 0 0 w)
  rw [show ((0 : Int) != 0) = false by rfl] at B0
  have B1 := Lib.hid (fun w => bad_any 1 a w)
  rw [show ((1 : Int) != 0) = true by rfl] at B1

  clear H
  go_enter Tryz.func18, Tryz.ntmps18
  go_upto_region 1 with (fail)
  rw [treeC_is]
  have O := Lib.hid (at_b0 w #[.int .i64 k, .int .i64 c, .bool d, .int .i64 0] 31 (.cells (treeC 0 (.slice none 0 0) 0) 56) (.cells #[.int .i64 0, .int .i64 0] 26))
  have T := Lib.hid (at_b1 w (treeC 0 (.slice none 0 0) 0) 56 (.cells #[.int .i64 k, .int .i64 c, .bool d, .int .i64 0] 31) (.cells #[.int .i64 0, .int .i64 0] 26))
  have F := Lib.hid (at_b2 w #[.int .i64 0, .int .i64 0] 26 (.cells #[.int .i64 k, .int .i64 c, .bool d, .int .i64 0] 31) (.cells (treeC 0 (.slice none 0 0) 0) 56))
  have K := Lib.hid (bel_b3 w (.cells #[.int .i64 k, .int .i64 c, .bool d, .int .i64 0] 31) (.cells (treeC 0 (.slice none 0 0) 0) 56) (.cells #[.int .i64 0, .int .i64 0] 26))
  obtain ⟨ob, hob⟩ : ∃ ob, ob = w.heap.size := ⟨_, rfl⟩
  obtain ⟨tb, htb⟩ : ∃ tb, tb = w.heap.size + 1 := ⟨_, rfl⟩
  obtain ⟨fb, hfb⟩ : ∃ fb, fb = w.heap.size + 1 + 1 := ⟨_, rfl⟩
  generalize ((w.alloc (.cells #[.int .i64 k, .int .i64 c, .bool d, .int .i64 0] 31)).alloc (.cells (treeC 0 (.slice none 0 0) 0) 56)).alloc (.cells #[.int .i64 0, .int .i64 0] 26) = wx at *
  rw [← hfb, ← htb, ← hob]
  rw [← hfb] at F
  rw [← htb] at T
  rw [← hob] at O
  have hws : w.heap.size ≤ ob ∧ ob < tb ∧ tb < fb := by omega
  have HWS := Lib.hid hws
  have hto : tb ≠ ob := by omega
  have hfo : fb ≠ ob := by omega
  have hft : fb ≠ tb := by omega
  clear hob htb hfb hws
  go_upto_region 3 with (go_at_call 53; (refine (HM.out _).mono ?_); rintro e w1 ⟨rfl, rfl⟩)
  obtain ⟨o0, o1, o2, o3⟩ := cells4 (O.out)
  go_region_with (first | (go_at_call 55; refine (HS.out _).mono ?_; rintro e w1 ⟨⟨x, rfl⟩, hb1⟩; replace hb1 : Below wx.heap.size wx w1 := ⟨hb1.os, hb1.tape, hb1.output, hb1.size, hb1.block⟩; replace O := Lib.hid (block_below O.out hb1); replace T := Lib.hid (block_below T.out hb1); replace F := Lib.hid (block_below F.out hb1); replace K := Lib.hid (nextB K.out hb1); obtain ⟨p0, p1, p2, p3⟩ := cells4 (O.out)) | (go_at_call 54; refine (HR.out _ _).mono ?_; rintro e w2 ⟨rfl, hb2⟩; replace hb2 : Below w1.heap.size w1 w2 := ⟨hb2.os, hb2.tape, hb2.output, hb2.size, hb2.block⟩; replace O := Lib.hid (block_below O.out hb2); replace T := Lib.hid (block_below T.out hb2); replace F := Lib.hid (block_below F.out hb2); replace K := Lib.hid (nextB K.out hb2)))
  all_goals
    clear HS HR HM
    go_upto_region 5 with (go_at_call 56; (refine (HD.out _).mono ?_); rintro e w3 ⟨rfl, hb3⟩; replace O := Lib.hid (block_below O.out hb3); replace T := Lib.hid (block_below T.out hb3); replace F := Lib.hid (block_below F.out hb3); replace K := Lib.hid (nextB K.out hb3))
    have G := Lib.hid (at_a0 w3 #[.int .i64 0, .int .i64 0] 26)
    have hfl := (Array.getElem?_eq_some_iff.1 F.out).1
    replace F := Lib.hid ((heap_alloc_old w3 (.cells #[.int .i64 0, .int .i64 0] 26) hfl).trans F.out)
    have htl := (Array.getElem?_eq_some_iff.1 T.out).1
    replace T := Lib.hid ((heap_alloc_old w3 (.cells #[.int .i64 0, .int .i64 0] 26) htl).trans T.out)
    have K3 := K.out.size
    replace K := Lib.hid (K.out.alloc K.out.size (.cells #[.int .i64 0, .int .i64 0] 26))
    clear O
    generalize w3.alloc (.cells #[.int .i64 0, .int .i64 0] 26) = w4 at *
    generalize w3.heap.size = gb at *
    have hgf : gb ≠ fb := by omega
    have hgt : gb ≠ tb := by omega
    have hgw : w.heap.size ≤ gb := by omega
    clear hfl htl K3
    obtain ⟨g0, g1⟩ := cells2 (G.out); obtain ⟨gf0, gf1⟩ := frees2 (G.out)
    go_upto_region 8 with (first | (go_at_call 6; (refine (B0.out _).mono ?_); rintro e w5 ⟨rfl, hb5⟩; replace G := Lib.hid (block_below G.out hb5); replace T := Lib.hid (block_below T.out hb5); replace F := Lib.hid (block_below F.out hb5); replace K := Lib.hid (nextB K.out hb5)) | (go_at_call 57; (refine (HP.out _ K.out).mono ?_); rintro e w6 ⟨rfl, hb6⟩; replace G := Lib.hid (block_below G.out hb6); replace T := Lib.hid (block_below T.out hb6); replace F := Lib.hid (block_below F.out hb6); replace K := Lib.hid (nextB K.out hb6); obtain ⟨h0, h1⟩ := cells2 (G.out); obtain ⟨hf0, hf1⟩ := frees2 (G.out)))
    have G2 := Lib.hid (store2 (v0 := .int .i64 1) (v1 := .int .i64 a) G.out rfl)
    replace T := Lib.hid ((heap_set_other (.int .i64 a) (Ne.symm hgt)).trans ((heap_set_other (.int .i64 1) (Ne.symm hgt)).trans T.out) : ((w6.setCell ⟨gb, 0, none⟩ (.int .i64 1)).setCell ⟨gb, 1, none⟩ (.int .i64 a)).heap[tb]? = _)
    replace F := Lib.hid ((heap_set_other (.int .i64 a) (Ne.symm hgf)).trans ((heap_set_other (.int .i64 1) (Ne.symm hgf)).trans F.out) : ((w6.setCell ⟨gb, 0, none⟩ (.int .i64 1)).setCell ⟨gb, 1, none⟩ (.int .i64 a)).heap[fb]? = _)
    replace K := Lib.hid ((K.out.setCell (p := ⟨gb, 0, none⟩) hgw (.int .i64 1)).setCell (p := ⟨gb, 1, none⟩) hgw (.int .i64 a))
    clear G
    generalize (w6.setCell ⟨gb, 0, none⟩ (.int .i64 1)).setCell ⟨gb, 1, none⟩ (.int .i64 a) = w7 at *
    obtain ⟨i0, i1⟩ := cells2 (G2.out); obtain ⟨if0, if1⟩ := frees2 (G2.out)
    go_upto_region 9 with (go_at_call 6; (refine (B1.out _).mono ?_); rintro e w8 ⟨rfl, hb8⟩; replace G2 := Lib.hid (block_below G2.out hb8); replace T := Lib.hid (block_below T.out hb8); replace F := Lib.hid (block_below F.out hb8); replace K := Lib.hid (nextB K.out hb8))
    obtain ⟨j0, j1⟩ := cells2 (G2.out); obtain ⟨jf0, jf1⟩ := frees2 (G2.out)
    obtain ⟨l0, l1⟩ := cells2 (F.out); obtain ⟨lf0, lf1⟩ := frees2 (F.out)
    refine wp_region_any (by kernel_rfl) ?_
    change wpAny _ _ _ _ _ _ _ (World.drew _)
    refine wpAny_take (i := 0) (v := .agg (treeC 0 (.slice none 0 0) 0)) rfl (by kernel_rfl) (by kernel_rfl) (by kernel_rfl) (fun _ _ _ h => h) (Or.inl ⟨by rfl, by intro w; go_simp; rfl⟩) ?_
    have hFT := fun (wz : World) (h : wz.heap = w8.heap) (C : Array Value) => (setRow_other wz tb fb C hft).trans ((congrArg (·[fb]?) h).trans F.out)
    refine wpAny_ready (rs := [1, 2]) (by kernel_rfl) (by simp) ?_
    refine AllReady.cons rfl (fun K hK => ?_) ?_
    · go_simp
      refine hK _ _ ?_
      clear hK K
      refine wpAny_ready (rs := [2]) (by kernel_rfl) (by simp) ?_
      refine AllReady.cons rfl (fun K hK => ?_) AllReady.nil
      refine wp_store_row 56 _ _ rfl tb _ rfl rfl _ _ T.out (by kernel_rfl) rfl (treeC_one _ _ _ rfl) ?_
      refine hK _ _ ?_
      clear hK K
      refine wpAny_ready (rs := [3]) (by kernel_rfl) (by simp) ?_
      refine AllReady.cons rfl (fun K hK => ?_) AllReady.nil
      refine wp_store_row 26 _ _ rfl fb _ rfl rfl _ _ (hFT _ rfl _) (by kernel_rfl) rfl (by simp [Value.oneCell']) ?_
      refine hK _ _ ?_
      clear hK K
      refine wpAny_done (by kernel_rfl) ?_ _
      go_wp2
      refine end_cc rfl rfl rfl ((setRow_other _ _ _ _ (Ne.symm hft)).trans (setRow_heap _ _ _ _ _ _ T.out)) Tryz.underlying56 rfl (by kernel_rfl) rfl (setRow_heap _ _ _ _ _ _ (hFT _ rfl _)) Tryz.underlying26 rfl (by kernel_rfl) ?_
      exact ⟨rfl, below_setRow (below_setRow (below_drewN K.out 1) (by have := HWS.out; omega) _) (by have := HWS.out; omega) _⟩
    · refine AllReady.cons rfl (fun K hK => ?_) AllReady.nil
      refine wp_store_row 56 _ _ rfl tb _ rfl rfl _ _ T.out (by kernel_rfl) rfl (treeC_one _ _ _ rfl) ?_
      refine hK _ _ ?_
      clear hK K
      refine wpAny_ready (rs := [1]) (by kernel_rfl) (by simp) ?_
      refine AllReady.cons rfl (fun K hK => ?_) AllReady.nil
      have gr := (setRow_other w8.drew tb gb (treeC 0 (.slice none 0 0) 0) hgt).trans G2.out
      obtain ⟨y0, y1⟩ := cells2 (gr)
      go_simp
      refine hK _ _ ?_
      clear hK K
      refine wpAny_ready (rs := [3]) (by kernel_rfl) (by simp) ?_
      refine AllReady.cons rfl (fun K hK => ?_) AllReady.nil
      refine wp_store_row 26 _ _ rfl fb _ rfl rfl _ _ (hFT _ rfl _) (by kernel_rfl) rfl (by simp [Value.oneCell']) ?_
      refine hK _ _ ?_
      clear hK K
      refine wpAny_done (by kernel_rfl) ?_ _
      go_wp2
      refine end_cc rfl rfl rfl ((setRow_other _ _ _ _ (Ne.symm hft)).trans (setRow_heap _ _ _ _ _ _ T.out)) Tryz.underlying56 rfl (by kernel_rfl) rfl (setRow_heap _ _ _ _ _ _ (hFT _ rfl _)) Tryz.underlying26 rfl (by kernel_rfl) ?_
      exact ⟨rfl, below_setRow (below_setRow (below_drewN K.out 1) (by have := HWS.out; omega) _) (by have := HWS.out; omega) _⟩
end Go.Proofs.YtndpcphmndfajaaGreatDoor
