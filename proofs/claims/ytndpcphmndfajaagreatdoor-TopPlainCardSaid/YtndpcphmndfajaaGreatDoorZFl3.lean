/- file.Parse, walked: plain texts that have no form. -/
import Derived.Test.YtndpcphmndfajaaGreatDoorZFl2

namespace Go.Proofs.YtndpcphmndfajaaGreatDoor
open Go.RowKit
set_option linter.unusedVariables false
set_option linter.unusedSimpArgs false

theorem at_c3 (w : World) (C : Array Value) (T : TypeId) (o1 o2 o3 o4 : Obj) : (((((w.alloc o1).alloc o2).alloc o3).alloc (.cells C T)).alloc o4).heap[w.heap.size + 1 + 1 + 1]? = some (.cells C T (0, 0)) := by
  have h := at_a1 (((w.alloc o1).alloc o2).alloc o3) C T o4
  simpa using h
theorem at_c4 (w : World) (C : Array Value) (T : TypeId) (o1 o2 o3 o4 : Obj) : (((((w.alloc o1).alloc o2).alloc o3).alloc o4).alloc (.cells C T)).heap[w.heap.size + 1 + 1 + 1 + 1]? = some (.cells C T (0, 0)) := by
  have h := heap_alloc_new ((((w.alloc o1).alloc o2).alloc o3).alloc o4) (.cells C T)
  simpa using h
/-- a tree stored, at once -/
theorem wpL_put {ops : Array Oper} {rest : List Oper} {a : Act} {w : World} {Q : Exit → Act → World → Prop} {x y : Operand} {ty0 p af} (b : Nat) (C1 C0 : Array Value) (e : TypeId) (hx : a.eval x = .pointer (some ⟨b, 0, none⟩)) (hy : a.eval y = .agg C1)
    (hg : w.heap[b]? = some (.cells C0 e (0, 0))) (h0 : C0.size = 25) (hs : C1.size = 25) (h1 : C1.all (·.oneCell') = true)
    (h : wpList Tryz.prog ops Q rest (a.put none undef) (w.setRow b C1)) : wpList Tryz.prog ops Q ({ dst := none, op := .store 56 x y, type := ty0, pos := p, after := af, guard := none } :: rest) a w :=
  wpList_store_row rfl 56 x y rfl b C1 hx hy e C0 hg (by rw [hs]; kernel_rfl) (by rw [h0, hs]) h1 h
theorem wpL_same {ops : Array Oper} {rest : List Oper} {a : Act} {w : World} {Q : Exit → Act → World → Prop} {x y : Operand} {ty0 p af} (b : Nat) (C1 : Array Value) (e : TypeId) (hx : a.eval x = .pointer (some ⟨b, 0, none⟩)) (hy : a.eval y = .agg C1)
    (hg : w.heap[b]? = some (.cells C1 e (0, 0))) (hs : C1.size = 25) (h1 : C1.all (·.oneCell') = true)
    (h : wpList Tryz.prog ops Q rest (a.put none undef) w) : wpList Tryz.prog ops Q ({ dst := none, op := .store 56 x y, type := ty0, pos := p, after := af, guard := none } :: rest) a w :=
  wpL_put b C1 C1 e hx hy hg hs hs h1 (by rw [setRow_self w b C1 e (0, 0) hg]; exact h)
theorem wpL_get {ops : Array Oper} {rest : List Oper} {a : Act} {w : World} {Q : Exit → Act → World → Prop} {x : Operand} {d ty0 p af} (b : Nat) (C0 : Array Value) (e : TypeId) (hx : a.eval x = .pointer (some ⟨b, 0, none⟩))
    (hg : w.heap[b]? = some (.cells C0 e (0, 0))) (h0 : C0.size = 25)
    (h : wpList Tryz.prog ops Q rest (a.put d (.agg C0)) w) : wpList Tryz.prog ops Q ({ dst := d, op := .load 56 x, type := ty0, pos := p, after := af, guard := none } :: rest) a w :=
  wpList_load_row rfl 56 x rfl b hx e C0 (0, 0) _ hg Tryz.underlying56 rfl (by rw [h0]; kernel_rfl) h

/-- how a kind compares: a sheet, subtitles, a script or a song -/
def KindSays (k : Nat) : Prop := (((k : Int) == 0) = false ∧ ((k : Int) == 1) = false ∧ ((k : Int) == 2) = false ∧ ((k : Int) == 3) = false) ∧
  (((k : Int) == 4) = true ∨ (((k : Int) == 4) = false ∧ ((k : Int) == 5) = true) ∨ (((k : Int) == 4) = false ∧ ((k : Int) == 5) = false ∧ ((k : Int) == 6) = true) ∨ (((k : Int) == 4) = false ∧ ((k : Int) == 5) = false ∧ ((k : Int) == 6) = false ∧ ((k : Int) == 7) = true))
theorem kind_says (k : Nat) (h1 : 4 ≤ k) (h2 : k ≤ 7) : KindSays k := by
  unfold KindSays
  have h : k = 4 ∨ k = 5 ∨ k = 6 ∨ k = 7 := by omega
  rcases h with rfl | rfl | rfl | rfl <;> decide
set_option maxHeartbeats 4000000 in
set_option maxRecDepth 100000 in
theorem parse_bad (k c a : Nat) (hk : KindSays k) (d : Bool) (t : List UInt8) (w : World)
    (HP : Hid (∀ w1, Below w.heap.size w w1 → Calls Tryz.prog 18 #[.int .i64 k, .string ⟨t.toArray⟩, .agg #[.int .i64 k, .int .i64 c, .bool d, .int .i64 0]] w1 fun e w' =>
      e = .returned (.tuple #[.agg (treeC 0 (.slice none 0 0) 0), .agg #[.int .i64 1, .int .i64 a]]) ∧ Below w1.heap.size w1 w')) :
    Calls Tryz.prog 9 #[.string ⟨t.toArray⟩, .agg #[.int .i64 k, .int .i64 c, .bool d, .int .i64 0]] w fun e w' =>
      e = .returned (.tuple #[.agg (treeC 0 (.slice none 0 0) 0), .agg #[.int .i64 1, .int .i64 a]]) ∧ Below w.heap.size w w' := by
  have B1 := Lib.hid (fun w => bad_any 1 a w)
  rw [show ((1 : Int) != 0) = true by rfl] at B1
  obtain ⟨⟨e0, e1, e2, e3⟩, hk⟩ := hk
  rcases hk with e4 | ⟨e4, e5⟩ | ⟨e4, e5, e6⟩ | ⟨e4, e5, e6, e7⟩
  all_goals
    go_enter Tryz.func9, Tryz.ntmps9
    go_upto_region 7 with (fail)
    rw [treeC_is]
    have O := Lib.hid (at_b0 w #[.int .i64 k, .int .i64 c, .bool d, .int .i64 0] 31 (.cells (treeC 0 (.slice none 0 0) 0) 56) (.cells #[.int .i64 0, .int .i64 0] 26))
    have T := Lib.hid (at_b1 w (treeC 0 (.slice none 0 0) 0) 56 (.cells #[.int .i64 k, .int .i64 c, .bool d, .int .i64 0] 31) (.cells #[.int .i64 0, .int .i64 0] 26))
    have F := Lib.hid (at_b2 w #[.int .i64 0, .int .i64 0] 26 (.cells #[.int .i64 k, .int .i64 c, .bool d, .int .i64 0] 31) (.cells (treeC 0 (.slice none 0 0) 0) 56))
    have K := Lib.hid (bel_b3 w (.cells #[.int .i64 k, .int .i64 c, .bool d, .int .i64 0] 31) (.cells (treeC 0 (.slice none 0 0) 0) 56) (.cells #[.int .i64 0, .int .i64 0] 26))
    obtain ⟨ob, hob⟩ : ∃ ob, ob = w.heap.size := ⟨_, rfl⟩
    obtain ⟨tb, htb⟩ : ∃ tb, tb = w.heap.size + 1 := ⟨_, rfl⟩
    obtain ⟨fb, hfb⟩ : ∃ fb, fb = w.heap.size + 1 + 1 := ⟨_, rfl⟩
    generalize ((w.alloc (.cells #[.int .i64 k, .int .i64 c, .bool d, .int .i64 0] 31)).alloc (.cells (treeC 0 (.slice none 0 0) 0) 56)).alloc (.cells #[.int .i64 0, .int .i64 0] 26) = wx at *
    rw [← hfb, ← htb, ← hob]
    rw [← hfb] at F
    rw [← htb] at T
    rw [← hob] at O
    have hws : w.heap.size ≤ ob ∧ ob < tb ∧ tb < fb := by omega
    have HWS := Lib.hid hws
    have hto : tb ≠ ob := by omega
    have hfo : fb ≠ ob := by omega
    have hft : fb ≠ tb := by omega
    clear hob htb hfb hws
    have T0 := Lib.hid ((heap_alloc_old (wx.alloc (.cells (treeC 0 (.slice none 0 0) 0) 56)) (.cells #[.int .i64 5, .int .i64 0] 26) (by simp)).trans (at_a0 wx (treeC 0 (.slice none 0 0) 0) 56))
    go_upto_region 19 with (refine wpL_same wx.heap.size (treeC 0 (.slice none 0 0) 0) 56 (by rfl) (by rfl) (at_a1 wx _ _ _) rfl (treeC_one _ _ _ rfl) ?_)
    rw [treeC_is]
    have X := Lib.hid (at_a1 wx (treeC 0 (.slice none 0 0) 0) 56 (.cells #[.int .i64 5, .int .i64 0] 26))
    have Y := Lib.hid (at_a2 wx #[.int .i64 5, .int .i64 0] 26 (.cells (treeC 0 (.slice none 0 0) 0) 56))
    have k2 := ((Below.refl wx.heap.size wx).alloc (Nat.le_refl _) (.cells (treeC 0 (.slice none 0 0) 0) 56))
    have k3 := k2.alloc k2.size (.cells #[.int .i64 5, .int .i64 0] 26)
    have hfl := (Array.getElem?_eq_some_iff.1 F.out).1
    have htl := (Array.getElem?_eq_some_iff.1 T.out).1
    have hks := K.out.size
    replace O := Lib.hid (block_below O.out k3)
    replace T := Lib.hid (block_below T.out k3)
    replace F := Lib.hid (block_below F.out k3)
    replace K := Lib.hid (nextB K.out k3)
    clear k2 k3 T0
    generalize (wx.alloc (.cells (treeC 0 (.slice none 0 0) 0) 56)).alloc (.cells #[.int .i64 5, .int .i64 0] 26) = wy at *
    generalize wx.heap.size = xb at *
    obtain ⟨yb, hyb⟩ : ∃ yb, yb = xb + 1 := ⟨_, rfl⟩
    rw [← hyb]
    rw [← hyb] at Y
    have hxy : xb ≠ yb := by omega
    have hyf : yb ≠ fb := by omega
    have hyt : yb ≠ tb := by omega
    have hyw : w.heap.size ≤ yb := by omega
    have hyx : yb ≠ xb := by omega
    clear hyb hfl htl hks
    obtain ⟨o0, o1, o2, o3⟩ := cells4 (O.out)
    go_upto_region 20 with (first | (go_at_call 18; (refine (HP.out _ K.out).mono ?_); rintro e w6 ⟨rfl, hb1⟩; replace T := Lib.hid (block_below T.out hb1); replace F := Lib.hid (block_below F.out hb1); replace X := Lib.hid (block_below X.out hb1); replace Y := Lib.hid (block_below Y.out hb1); replace K := Lib.hid (nextB K.out hb1); obtain ⟨y0, y1⟩ := cells2 (Y.out); obtain ⟨yf0, yf1⟩ := frees2 (Y.out)) | (refine wpL_same xb (treeC 0 (.slice none 0 0) 0) 56 (by rfl) (by rfl) X.out rfl (treeC_one _ _ _ rfl) ?_))
    have Y2 := Lib.hid (store2 (v0 := .int .i64 1) (v1 := .int .i64 a) Y.out rfl)
    replace T := Lib.hid ((heap_set_other (.int .i64 a) (Ne.symm hyt)).trans ((heap_set_other (.int .i64 1) (Ne.symm hyt)).trans T.out) : ((w6.setCell ⟨yb, 0, none⟩ (.int .i64 1)).setCell ⟨yb, 1, none⟩ (.int .i64 a)).heap[tb]? = _)
    replace F := Lib.hid ((heap_set_other (.int .i64 a) (Ne.symm hyf)).trans ((heap_set_other (.int .i64 1) (Ne.symm hyf)).trans F.out) : ((w6.setCell ⟨yb, 0, none⟩ (.int .i64 1)).setCell ⟨yb, 1, none⟩ (.int .i64 a)).heap[fb]? = _)
    replace K := Lib.hid ((K.out.setCell (p := ⟨yb, 0, none⟩) hyw (.int .i64 1)).setCell (p := ⟨yb, 1, none⟩) hyw (.int .i64 a))
    clear Y
    generalize (w6.setCell ⟨yb, 0, none⟩ (.int .i64 1)).setCell ⟨yb, 1, none⟩ (.int .i64 a) = w7 at *
    obtain ⟨i0, i1⟩ := cells2 (Y2.out); obtain ⟨if0, if1⟩ := frees2 (Y2.out)
    go_upto_region 21 with (go_at_call 6; (refine (B1.out _).mono ?_); rintro e w8 ⟨rfl, hb8⟩; replace Y2 := Lib.hid (block_below Y2.out hb8); replace T := Lib.hid (block_below T.out hb8); replace F := Lib.hid (block_below F.out hb8); replace K := Lib.hid (nextB K.out hb8))
    obtain ⟨j0, j1⟩ := cells2 (Y2.out); obtain ⟨jf0, jf1⟩ := frees2 (Y2.out)
    obtain ⟨l0, l1⟩ := cells2 (F.out); obtain ⟨lf0, lf1⟩ := frees2 (F.out)
    refine wp_region_any (by kernel_rfl) ?_
    change wpAny _ _ _ _ _ _ _ (World.drew _)
    refine wpAny_take (i := 0) (v := .agg (treeC 0 (.slice none 0 0) 0)) rfl (by kernel_rfl) (by kernel_rfl) (by kernel_rfl) (fun _ _ _ h => h) (Or.inl ⟨by rfl, by intro w; go_simp; rfl⟩) ?_
    have hFT := fun (wz : World) (h : wz.heap = w8.heap) (C : Array Value) => (setRow_other wz tb fb C hft).trans ((congrArg (·[fb]?) h).trans F.out)
    refine wpAny_ready (rs := [1, 2]) (by kernel_rfl) (by simp) ?_
    refine AllReady.cons rfl (fun K hK => ?_) ?_
    · go_simp
      refine hK _ _ ?_
      clear hK K
      refine wpAny_ready (rs := [2]) (by kernel_rfl) (by simp) ?_
      refine AllReady.cons rfl (fun K hK => ?_) AllReady.nil
      refine wp_store_row 56 _ _ rfl tb _ rfl rfl _ _ T.out (by kernel_rfl) rfl (treeC_one _ _ _ rfl) ?_
      refine hK _ _ ?_
      clear hK K
      refine wpAny_ready (rs := [3]) (by kernel_rfl) (by simp) ?_
      refine AllReady.cons rfl (fun K hK => ?_) AllReady.nil
      refine wp_store_row 26 _ _ rfl fb _ rfl rfl _ _ (hFT _ rfl _) (by kernel_rfl) rfl (by simp [Value.oneCell']) ?_
      refine hK _ _ ?_
      clear hK K
      refine wpAny_done (by kernel_rfl) ?_ _
      go_wp2
      refine end_cc rfl rfl rfl ((setRow_other _ _ _ _ (Ne.symm hft)).trans (setRow_heap _ _ _ _ _ _ T.out)) Tryz.underlying56 rfl (by kernel_rfl) rfl (setRow_heap _ _ _ _ _ _ (hFT _ rfl _)) Tryz.underlying26 rfl (by kernel_rfl) ?_
      exact ⟨rfl, below_setRow (below_setRow (below_drewN K.out 1) (by have := HWS.out; omega) _) (by have := HWS.out; omega) _⟩
    · refine AllReady.cons rfl (fun K hK => ?_) AllReady.nil
      refine wp_store_row 56 _ _ rfl tb _ rfl rfl _ _ T.out (by kernel_rfl) rfl (treeC_one _ _ _ rfl) ?_
      refine hK _ _ ?_
      clear hK K
      refine wpAny_ready (rs := [1]) (by kernel_rfl) (by simp) ?_
      refine AllReady.cons rfl (fun K hK => ?_) AllReady.nil
      have gr := (setRow_other w8.drew tb yb (treeC 0 (.slice none 0 0) 0) hyt).trans Y2.out
      obtain ⟨y0, y1⟩ := cells2 (gr)
      go_simp
      refine hK _ _ ?_
      clear hK K
      refine wpAny_ready (rs := [3]) (by kernel_rfl) (by simp) ?_
      refine AllReady.cons rfl (fun K hK => ?_) AllReady.nil
      refine wp_store_row 26 _ _ rfl fb _ rfl rfl _ _ (hFT _ rfl _) (by kernel_rfl) rfl (by simp [Value.oneCell']) ?_
      refine hK _ _ ?_
      clear hK K
      refine wpAny_done (by kernel_rfl) ?_ _
      go_wp2
      refine end_cc rfl rfl rfl ((setRow_other _ _ _ _ (Ne.symm hft)).trans (setRow_heap _ _ _ _ _ _ T.out)) Tryz.underlying56 rfl (by kernel_rfl) rfl (setRow_heap _ _ _ _ _ _ (hFT _ rfl _)) Tryz.underlying26 rfl (by kernel_rfl) ?_
      exact ⟨rfl, below_setRow (below_setRow (below_drewN K.out 1) (by have := HWS.out; omega) _) (by have := HWS.out; omega) _⟩
end Go.Proofs.YtndpcphmndfajaaGreatDoor
