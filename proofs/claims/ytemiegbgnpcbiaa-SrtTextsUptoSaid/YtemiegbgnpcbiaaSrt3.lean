/- Subtitles (srt): line.Walk with what tells each line's pieces. -/
import Derived.Test.YtemiegbgnpcbiaaSrt2
import Derived.Deep.DeepCutAuto
namespace Go.Proofs.Ytemiegbgnpcbiaa
open Go.RowKit
set_option linter.unusedVariables false

/-- 'l = append(l, told...)', one record that lies at g -/
theorem wpList_pushAt {P : Program} (wr : World) {ops : Array Oper} {rest : List Oper} {o : Oper} {a : Act} {Q : Exit → Act → World → Prop} (hgd : o.guard = none) (s x : Operand) (t : TypeId)
    (ho : o.op = .call { callee := .builtin .append, args := #[s, x], argTypes := #[t, t] })
    (base e size bytes : Nat) (z : Value) (ht : P.underlying t = some (.slice e)) (hinfo : (P.info? e).map (fun i => (i.zero, i.size, i.bytes)) = some (some z, size, bytes)) (hzs : z.cells.size = size) (hsz : 0 < size) (hby : bytes ≤ 1000)
    (v : Value) (L : List (List Value)) (r : List Value) (g c : Nat) (hr : r.length = size) (h1 : ∀ u ∈ r, u.oneCell' = true) (hs : a.eval s = v) (hbuf : Recs wr base e size v L) (hx : a.eval x = .slice (some ⟨g, 0, none⟩) 1 c)
    (hnews : ∀ j u, r[j]? = some u → wr.cell? ⟨g, j, none⟩ = some u) (hlen : L.length ≤ 1000000000) (hbase : base ≤ wr.heap.size)
    (h : ∀ v' w', Recs w' base e size v' (L ++ [r]) → wr.grownBy w' v.ownBlock → wpList P ops Q rest (a.put o.dst v') w') :
    wpList P ops Q (o :: rest) a wr := by
  obtain ⟨i, hi, hz0, hz1, hz2⟩ := info_parts hinfo
  refine wpList_append_own _ hgd s x t ho base e i z size bytes ht hi hz0 hz1 hz2 hzs hsz v L.length L.flatten hs hbuf.2 ⟨g, 0, none⟩ 1 c r hx (by omega) ?_ h1 ?_ ?_ ?_ ?_
  · intro j u hj
    have : ((⟨g, 0, none⟩ : Addr).add j) = ⟨g, j, none⟩ := by rw [Go.WideShapes.add_plain, Nat.zero_add]
    rw [this]
    exact hnews j u hj
  · unfold maxLen; omega
  · have : (L.length + 1) * bytes ≤ 1000000001 * 1000 := Nat.mul_le_mul (by omega) hby
    omega
  · exact hbase
  · intro v' w' hown hg _
    refine h v' w' ⟨?_, ?_⟩ hg
    · intro q hq
      rcases List.mem_append.1 hq with hq | hq
      · exact hbuf.1 q hq
      · obtain rfl : q = r := by simpa using hq
        exact hr
    · rw [List.flatten_append, List.length_append]
      simpa using hown

theorem append_none {P : Program} {w : World} (t ty e : TypeId) (i : TypeInfo) (ht : P.underlying t = some (.slice e)) (hi : P.info? e = some i) {base size : Nat} {v : Value} {L : List (List Value)} (h : Recs w base e size v L) :
    (Builtin.append_ #[t, t] ty #[v, .slice none 0 0]).run P w = .ok v w := by
  rcases h.2.2 with ⟨rfl, h0⟩ | ⟨g, cap, cur, rfl, hb, hg, hn, _⟩
  · simp [Builtin.append_, run_underlying ht, sizeOf, typeInfo, hi, Builtin.lenOf, Builtin.firstCells]
  · simp [Builtin.append_, run_underlying ht, sizeOf, typeInfo, hi, Builtin.lenOf, Builtin.firstCells, loadCells, storeCells, hn]
theorem wpList_appendNone {P : Program} (wr : World) {ops : Array Oper} {rest : List Oper} {o : Oper} {a : Act} {Q : Exit → Act → World → Prop} (hgd : o.guard = none) (s x : Operand) (t : TypeId)
    (ho : o.op = .call { callee := .builtin .append, args := #[s, x], argTypes := #[t, t] })
    (base e size bytes : Nat) (z : Value) (ht : P.underlying t = some (.slice e)) (hinfo : (P.info? e).map (fun i => (i.zero, i.size, i.bytes)) = some (some z, size, bytes))
    (v : Value) (L : List (List Value)) (hs : a.eval s = v) (hbuf : Recs wr base e size v L) (hx : a.eval x = .slice none 0 0) (h : wpList P ops Q rest (a.put o.dst v) wr) : wpList P ops Q (o :: rest) a wr := by
  obtain ⟨i, hi, _, _, _⟩ := info_parts hinfo
  refine wpList_plain hgd fun K hK => ?_
  have hr := append_none (P := P) (w := wr) t o.type e i ht hi hbuf
  unfold Oper.wp
  simp only [execOp, ho, resolve, invoke, builtin, Sem.run_bind, Sem.run_pure, Result.andThen_ok, List.map_toArray, List.map_cons, List.map_nil, hs, hx, hr]
  exact hK _ _ h
theorem Recs.ne {w : World} {base e size b : Nat} {v : Value} {L : List (List Value)} {C : Array Value} {T : TypeId} {fr : Nat × Nat} (h : Recs w base e size v L) (hb : w.heap[b]? = some (.cells C T fr)) (hT : T ≠ e) : ∀ j, v.ownBlock = some j → j ≠ b := by
  intro j hj e1
  subst e1
  rcases h.2.2 with ⟨rfl, _⟩ | ⟨g, cap, cur, rfl, _, hg, _⟩
  · cases hj
  · simp only [Value.ownBlock, Option.some.injEq] at hj
    subst hj
    rw [hb] at hg
    injection hg with hg
    injection hg with _ h2 _
    exact hT h2
theorem info_Piece : (Try.prog.info? 34).map (fun i => (i.zero, i.size, i.bytes)) = some (some (.agg #[.bool false, .string ⟨#[]⟩, .string ⟨#[]⟩]), 3, 40) := by kernel_rfl
theorem one_pcR (p : Pc) : ∀ u ∈ pcR p, u.oneCell' = true := by
  intro u hu
  simp only [pcR, List.mem_cons, List.not_mem_nil, or_false] at hu
  rcases hu with rfl | rfl | rfl <;> rfl
theorem step_shape (st cnt : Nat) (s : List UInt8) (r : Nat × Nat × List Pc) (h : stepS st cnt s = some r) (hst : st ≤ 2) : r.1 ≤ 2 ∧ r.2.1 ≤ cnt + 1 ∧ (r.2.2 = [] ∨ ∃ p, r.2.2 = [p]) := by
  unfold stepS at h
  split at h
  · split at h
    · cases h; exact ⟨Nat.le_refl _, Nat.le_succ _, .inr ⟨_, rfl⟩⟩
    · cases h
  · split at h
    · cases h; exact ⟨Nat.zero_le _, Nat.le_succ _, .inl rfl⟩
    · split at h
      · cases h; exact ⟨Nat.le_refl _, Nat.le_succ _, .inr ⟨_, rfl⟩⟩
      · split at h
        · cases h; exact ⟨by show (1 : Nat) ≤ 2; decide, Nat.le_refl _, .inr ⟨_, rfl⟩⟩
        · cases h
theorem block_grown {w w' : World} {row : Option Nat} {b : Nat} {o : Obj} (h : w.heap[b]? = some o) (hg : w.grownBy w' row) (hne : row ≠ some b) : w'.heap[b]? = some o :=
  (hg.block b (Array.getElem?_eq_some_iff.1 h).1 (by first | exact hne | exact fun e => hne e.symm)).trans h
theorem block_two {w w' : World} {bs bc b : Nat} {o : Obj} (h : w.heap[b]? = some o) (hg : Two bs bc w w') (h1 : b ≠ bs) (h2 : b ≠ bc) : w'.heap[b]? = some o :=
  (hg.block b (Array.getElem?_eq_some_iff.1 h).1 h1 h2).trans h
theorem Two.grown {bs bc : Nat} {u w w' : World} {v : Value} (h : Two bs bc u w) (hg : w.grownBy w' v.ownBlock) (hv : ∀ k, v.ownBlock = some k → u.heap.size ≤ k) : Two bs bc u w' :=
  ⟨hg.os.trans h.os, hg.tape.trans h.tape, hg.output.trans h.output, Nat.le_trans h.size hg.size, fun k hk h1 h2 => (hg.block k (Nat.lt_of_lt_of_le hk h.size) (by intro e; have := hv k e.symm; omega)).trans (h.block k hk h1 h2)⟩
theorem Boxes.grown {w w' : World} {bs bc st cnt : Nat} {v : Value} (h : Boxes w bs bc st cnt) (hg : w.grownBy w' v.ownBlock) (hv : ∀ k, v.ownBlock = some k → bs < k ∧ bc < k) : Boxes w' bs bc st cnt :=
  ⟨block_grown h.1 hg (fun e => by have := hv _ e; omega), block_grown h.2 hg (fun e => by have := hv _ e; omega)⟩

theorem Two.setNew {bs bc b j : Nat} {u w : World} (h : Two bs bc u w) (hb : u.heap.size ≤ b) (v : Value) : Two bs bc u (w.setCell ⟨b, j, none⟩ v) :=
  ⟨h.os, h.tape, h.output, by simpa [World.setCell] using h.size, fun k hk h1 h2 => (heap_set_other v (by omega)).trans (h.block k hk h1 h2)⟩
theorem Boxes.setNew {bs bc b j st cnt : Nat} {w : World} (h : Boxes w bs bc st cnt) (h1 : bs ≠ b) (h2 : bc ≠ b) (v : Value) : Boxes (w.setCell ⟨b, j, none⟩ v) bs bc st cnt :=
  ⟨(heap_set_other v h1).trans h.1, (heap_set_other v h2).trans h.2⟩
theorem Recs.setOld {w : World} {base e size b j : Nat} {v u : Value} {L : List (List Value)} (h : Recs w base e size v L) (hb : b < base) : Recs (w.setCell ⟨b, j, none⟩ u) base e size v L := by
  refine ⟨h.1, h.2.1, ?_⟩
  rcases h.2.2 with hn | ⟨g, cap, cur, hv, hbs, hg, rest⟩
  · exact .inl hn
  · exact .inr ⟨g, cap, cur, hv, hbs, (heap_set_other u (by omega)).trans hg, rest⟩

def WalkSays (bs bc : Nat) (t : List UInt8) (w : World) (e : Ending) (w' : World) : Prop :=
  match walkS (linesOf t 0) 0 0 [] with
  | .error a => e = .returned (.tuple #[.slice none 0 0, .agg #[.int .i64 1, .int .i64 a]]) ∧ Two bs bc w w'
  | .ok (st, cnt, acc) => ∃ v, e = .returned (.tuple #[v, .agg #[.int .i64 0, .int .i64 0]]) ∧ Recs w' w.heap.size 34 3 v (acc.map pcR) ∧ Boxes w' bs bc st cnt ∧ Two bs bc w w'

/-- what holds in the midst of a round: the line's pieces are behind the others -/
def WMid (bs bc : Nat) (w : World) (R xb st cnt : Nat) (L : List Pc) (a b : List UInt8) (k : Nat) (v : Value) (wx : World) : Prop :=
  Recs wx (R + 1) 34 3 v (L.map pcR) ∧ Boxes wx bs bc st cnt ∧ Two bs bc w wx ∧ wx.heap[R]? = some (.cells #[.int .i64 0, .int .i64 0] 42 (0, 0)) ∧
  wx.heap[xb]? = some (.cells #[.string ⟨a.toArray⟩, .string ⟨b.toArray⟩, .int .i64 k] 28 (0, 0))

theorem told_nil {w : World} {base : Nat} {v : Value} (h : Told w base v []) : v = .slice none 0 0 := by
  rcases h with ⟨_, h⟩ | ⟨p, g, h, _⟩
  · exact h
  · cases h
theorem told_one {w : World} {base : Nat} {v : Value} {p : Pc} (h : Told w base v [p]) : ∃ g, v = .slice (some ⟨g, 0, none⟩) 1 1 ∧ base ≤ g ∧ ∀ j u, (pcR p)[j]? = some u → w.cell? ⟨g, j, none⟩ = some u := by
  rcases h with ⟨h, _⟩ | ⟨q, g, h, hv, hg, hc⟩
  · cases h
  · cases h
    exact ⟨g, hv, hg, fun j u hu => by rw [cell_at hc]; simpa using hu⟩

set_option maxHeartbeats 4000000 in
set_option maxRecDepth 100000 in
theorem walk_any (bs bc : Nat) (t : List UInt8) (w : World) (h : Boxes w bs bc 0 0) (hne : bs ≠ bc) (ht : t.length ≤ 1000000) :
    Calls Try.prog 43 #[.string ⟨t.toArray⟩, .func (.func 52) #[] #[.pointer (some ⟨bs, 0, none⟩), .pointer (some ⟨bc, 0, none⟩)]] w (WalkSays bs bc t w) := by
  have hlt := h.lt
  have H0 := Lib.hid h
  clear h
  generalize hR : w.heap.size = R at *
  go_enter Try.func43, Try.ntmps43
  go_wp2
  go_loopw [6, 7] (fun v i wr => ∃ (k st cnt : Nat) (acc : List Pc), k ≤ t.length ∧ st ≤ 2 ∧ cnt ≤ k ∧ acc.length ≤ 2 * k ∧ i = .int .i64 k ∧ Hid (walkS (linesOf (t.drop k) k) st cnt acc = walkS (linesOf t 0) 0 0 []) ∧
    Hid (Recs wr (R + 1) 34 3 v (acc.map pcR)) ∧ Hid (Boxes wr bs bc st cnt) ∧ Hid (Two bs bc w wr) ∧ Hid (wr.heap[R]? = some (.cells #[.int .i64 0, .int .i64 0] 42 (0, 0)))) (fun _ i _ => t.length - (intOf i).toNat)
  case atStart =>
    refine ⟨0, 0, 0, [], by omega, by omega, by omega, by simp, rfl, Lib.hid rfl, Lib.hid (Recs.nil _ _ _ _), Lib.hid (H0.out.alloc _), Lib.hid (Two.alloc _ _), Lib.hid ?_⟩
    rw [← hR]
    exact at_a0 _ _ _
  case round =>
    obtain ⟨k, st, cnt, acc, hk, hst, hcnt, hacc, rfl, HA, HR, HX, HT, HF⟩ := hrel
    have hRlt : R < wr.heap.size := (Array.getElem?_eq_some_iff.1 HF.out).1
    have hxl := HX.out.lt
    by_cases hlt2 : k < t.length
    · have h0 : (k : Int) < t.length := by omega
      have HN := Lib.hid (fun w => next_any t k w hk (by omega))
      have hne2 : t.drop k ≠ [] := by intro e; have := congrArg List.length e; rw [List.length_drop] at this; simp at this; omega
      have hcons := linesOf_cons (t.drop k) k hne2
      have hpos := line_pos (t.drop k) hne2
      have hl1 : (lineAt (t.drop k)).length + (endOf ((t.drop k).drop (lineAt (t.drop k)).length)).length ≤ (t.drop k).length := by
        have e1 := congrArg List.length (lineAt_pre (t.drop k))
        have e2 := (endOf_len ((t.drop k).drop (lineAt (t.drop k)).length)).1
        rw [List.length_append] at e1
        omega
      rw [List.length_drop] at hl1
      rw [List.drop_drop, List.drop_drop] at hcons
      rw [List.drop_drop] at hpos hl1
      have hA := HA.out
      rw [hcons, walkS] at hA
      simp only at hA
      clear hcons hne2 HA
      generalize lineAt (t.drop k) = a at *
      generalize endOf (t.drop (k + a.length)) = b at *
      have HP := Lib.hid (fun w h => pieces_any bs bc st cnt a w h hne (by omega) hst (by omega))
      unfold PiecesSay at HP
      rcases hS : stepS st cnt a with _ | ⟨st', cnt', ps⟩
      · rw [hS] at hA HP
        simp only at hA
        have HA := Lib.hid hA
        clear hA hS
        go_wp2_with (first | (go_at_call 31; refine (HN.out _).mono ?_; rintro e w1 ⟨rfl, hb1⟩; have HX1 := Lib.hid ((HX.out.below hb1).alloc (.cells #[.string ⟨a.toArray⟩, .string ⟨b.toArray⟩, .int .i64 k] 28))) | (go_at_call 52; refine (HP.out _ HX1.out).mono ?_; rintro e w2 ⟨rfl, h2⟩; have hf2 := block_two ((heap_alloc_old w1 (.cells #[.string ⟨a.toArray⟩, .string ⟨b.toArray⟩, .int .i64 k] 28) (Nat.lt_of_lt_of_le hRlt hb1.size)).trans (block_below HF.out hb1)) h2 (by omega) (by omega); have c0 := cell_at (j := 0) hf2; have c1 := cell_at (j := 1) hf2; have f0 := free_at (j := 0) hf2; have f1 := free_at (j := 1) hf2; simp only [List.getElem?_toArray, List.getElem?_cons_zero, List.getElem?_cons_succ] at c0 c1))
        refine end_tmp_cell rfl rfl rfl (store2 hf2 rfl) Try.underlying42 rfl (by kernel_rfl) ?_
        unfold WalkSays
        rw [← HA.out]
        exact ⟨rfl, ((((HT.out.trans (Two.of_below hb1)).trans (Two.alloc _ _)).trans h2).setNew (by omega) _).setNew (by omega) _⟩
      · rw [hS] at hA HP
        simp only at hA HP
        obtain ⟨hs1, hs2, hs3⟩ := step_shape _ _ _ _ hS hst
        simp only at hs1 hs2 hs3
        have HA := Lib.hid hA
        have CM := Lib.hid (fun w g hg => mark_one b w g hg (by omega))
        clear hA hS
        have hbox : ∀ w1 : World, Below wr.heap.size wr w1 → ∀ w2 : World, Two bs bc (w1.alloc (.cells #[.string ⟨a.toArray⟩, .string ⟨b.toArray⟩, .int .i64 k] 28)) w2 →
            w2.heap[w1.heap.size]? = some (.cells #[.string ⟨a.toArray⟩, .string ⟨b.toArray⟩, .int .i64 k] 28 (0, 0)) ∧ w2.heap[R]? = some (.cells #[.int .i64 0, .int .i64 0] 42 (0, 0)) ∧ Recs w2 (R + 1) 34 3 u6 (acc.map pcR) ∧ Two bs bc w w2 ∧ w1.heap.size < w2.heap.size ∧ R < w1.heap.size := by
          intro w1 hb1 w2 h2
          have hs := hb1.size
          refine ⟨block_two (at_a0 _ _ _) h2 (by omega) (by omega), block_two ((heap_alloc_old w1 _ (by omega)).trans (block_below HF.out hb1)) h2 (by omega) (by omega), ?_, ((HT.out.trans (Two.of_below hb1)).trans (Two.alloc _ _)).trans h2, ?_, by omega⟩
          · exact ((HR.out.below hb1).alloc _).two h2 (by omega) (by omega)
          · have := h2.size
            simp at this
            omega
        have HBOX := Lib.hid hbox
        clear hbox
        rcases hs3 with rfl | ⟨pc, rfl⟩
        · go_upto_region 8 with (first | (go_at_call 31; refine (HN.out _).mono ?_; rintro e w1 ⟨rfl, hb1⟩; have HX1 := Lib.hid ((HX.out.below hb1).alloc (.cells #[.string ⟨a.toArray⟩, .string ⟨b.toArray⟩, .int .i64 k] 28))) | (go_at_call 52; refine (HP.out _ HX1.out).mono ?_; rintro e w2 ⟨v2, rfl, ht2, hx2, h2⟩; obtain rfl := told_nil ht2; obtain ⟨q1, q2, q3, q4, q5, q6⟩ := HBOX.out _ hb1 _ h2; have HM := Lib.hid (show WMid bs bc w R w1.heap.size st' cnt' acc a b k u6 w2 from ⟨q3, hx2, q4, q2, q1⟩); clear ht2 hx2 h2 q1 q2 q4 hb1))
          generalize w1.heap.size = xb at *
          clear HX1 HBOX HX HT HF HR HN
          have hxw : xb ≠ R := by omega
          go_upto_region 9 with (at_builtin; refine wpList_appendNone w2 rfl (.tmp 29) (.tmp 30) 31 rfl (R + 1) 34 3 40 _ Try.underlying31 info_Piece u6 (acc.map pcR) (by rfl) q3 (by rfl) ?_)
          clear q3
          have c0 := cell_at (j := 0) HM.out.2.2.2.2
          have c1 := cell_at (j := 1) HM.out.2.2.2.2
          simp only [List.getElem?_toArray, List.getElem?_cons_zero, List.getElem?_cons_succ] at c0 c1
          have hvb := HM.out.1.lt
          have hvx := HM.out.1.ne HM.out.2.2.2.2 (by decide)
          by_cases hbe : b = []
          · subst hbe
            go_wp2
            exact ⟨⟨k + a.length, st', cnt', acc, by omega, hs1, by simp at hpos; omega, by simp at hpos ⊢; omega, by simp, Lib.hid (by have hA := HA.out; simp only [endP, if_true, List.append_nil, List.length_nil, Nat.add_zero] at hA ⊢; exact hA), Lib.hid (by simpa using HM.out.1), Lib.hid HM.out.2.1, Lib.hid HM.out.2.2.1, Lib.hid HM.out.2.2.2.1⟩, by simp [intOf] at hpos ⊢; omega⟩
          · have hbE : b.isEmpty = false := by cases b; exact absurd rfl hbe; rfl
            have hsz : R < w2.heap.size := (Array.getElem?_eq_some_iff.1 HM.out.2.2.2.1).1
            have hxz : xb < w2.heap.size := (Array.getElem?_eq_some_iff.1 HM.out.2.2.2.2).1
            go_wp2_with (first | (go_at_call 14; refine (CM.out _ _ (by simp)).mono ?_; rintro e w4 ⟨rfl, hb4⟩; have HR4 := Lib.hid (Recs.below (HM.out.1.alloc (.cells #[.string ⟨b.toArray⟩] 9)) hb4); have hs4 := (below_a1 hb4).size) | (at_builtin; refine wpList_pushR w4 rfl (.tmp 35) (.tmp 40) 31 rfl (R + 1) 34 3 40 _ Try.underlying31 info_Piece rfl (by decide) (by decide) _ ((acc).map pcR) (pcR (markL b)) _ (by rfl) rfl (one_pcR _) (by rfl) HR4.out (by rfl) (by simp; omega) (by omega) _ ?_; intro v5 w5 hr5 hg5; have hx5 := block_grown (block_below HM.out.2.2.2.2 (below_a1 hb4)) hg5 (fun e => hvx _ e rfl); have d0 := cell_at (j := 0) hx5; have d1 := cell_at (j := 1) hx5; simp only [List.getElem?_toArray, List.getElem?_cons_zero, List.getElem?_cons_succ] at d0 d1))
            exact ⟨⟨k + (a.length + b.length), st', cnt', acc ++ [markL b], by omega, hs1, by omega, by simp; omega, by simp, Lib.hid (by have hA := HA.out; rw [endP, if_neg hbe] at hA; rw [← Nat.add_assoc] at hA ⊢; simpa using hA), Lib.hid (by rw [List.map_append]; exact hr5), Lib.hid ((HM.out.2.1.below (below_a1 hb4)).grown hg5 (fun j e => by have h9 := hvb j e; omega)), Lib.hid ((HM.out.2.2.1.trans (Two.of_below (below_a1 hb4))).grown hg5 (fun j e => by have h9 := hvb j e; omega)), Lib.hid (block_grown (block_below HM.out.2.2.2.1 (below_a1 hb4)) hg5 (fun e => by have h9 := hvb _ e; omega))⟩, by simp [intOf]; omega⟩
        · have hvr := HR.out.lt
          have hal : (acc.map pcR).length ≤ 1000000000 := by rw [List.length_map]; omega
          go_upto_region 9 with (first | (go_at_call 31; refine (HN.out _).mono ?_; rintro e w1 ⟨rfl, hb1⟩; have HX1 := Lib.hid ((HX.out.below hb1).alloc (.cells #[.string ⟨a.toArray⟩, .string ⟨b.toArray⟩, .int .i64 k] 28))) | (go_at_call 52; refine (HP.out _ HX1.out).mono ?_; rintro e w2 ⟨v2, rfl, ht2, hx2, h2⟩; obtain ⟨g2, rfl, hg2, hcells⟩ := told_one ht2; obtain ⟨q1, q2, q3, q4, q5, q6⟩ := HBOX.out _ hb1 _ h2; have hs1' := hb1.size) | (at_builtin; refine wpList_pushAt w2 rfl (.tmp 29) (.tmp 30) 31 rfl (R + 1) 34 3 40 _ Try.underlying31 info_Piece rfl (by decide) (by decide) u6 (acc.map pcR) (pcR pc) g2 1 rfl (one_pcR _) (by rfl) q3 (by rfl) hcells hal (by omega) ?_; intro v3 w3 hr3 hg3; have HM := Lib.hid (show WMid bs bc w R w1.heap.size st' cnt' (acc ++ [pc]) a b k v3 w3 from ⟨by rw [List.map_append]; exact hr3, hx2.grown hg3 (fun j e => by have h9 := hvr j e; omega), q4.grown hg3 (fun j e => by have h9 := hvr j e; omega), block_grown q2 hg3 (fun e => by have h9 := hvr _ e; omega), block_grown q1 hg3 (fun e => by have h9 := hvr _ e; omega)⟩)))
          clear HX1 HBOX HX HT HF HR HN ht2 hx2 h2 q1 q2 q3 q4 hb1 hr3 hg3 hcells
          generalize w1.heap.size = xb at *
          have hxw : xb ≠ R := by omega
          have c0 := cell_at (j := 0) HM.out.2.2.2.2
          have c1 := cell_at (j := 1) HM.out.2.2.2.2
          simp only [List.getElem?_toArray, List.getElem?_cons_zero, List.getElem?_cons_succ] at c0 c1
          have hvb := HM.out.1.lt
          have hvx := HM.out.1.ne HM.out.2.2.2.2 (by decide)
          by_cases hbe : b = []
          · subst hbe
            go_wp2
            exact ⟨⟨k + a.length, st', cnt', (acc ++ [pc]), by omega, hs1, by simp at hpos; omega, by simp at hpos ⊢; omega, by simp, Lib.hid (by have hA := HA.out; simp only [endP, if_true, List.append_nil, List.length_nil, Nat.add_zero] at hA ⊢; exact hA), Lib.hid (by simpa using HM.out.1), Lib.hid HM.out.2.1, Lib.hid HM.out.2.2.1, Lib.hid HM.out.2.2.2.1⟩, by simp [intOf] at hpos ⊢; omega⟩
          · have hbE : b.isEmpty = false := by cases b; exact absurd rfl hbe; rfl
            have hsz : R < w3.heap.size := (Array.getElem?_eq_some_iff.1 HM.out.2.2.2.1).1
            have hxz : xb < w3.heap.size := (Array.getElem?_eq_some_iff.1 HM.out.2.2.2.2).1
            go_wp2_with (first | (go_at_call 14; refine (CM.out _ _ (by simp)).mono ?_; rintro e w4 ⟨rfl, hb4⟩; have HR4 := Lib.hid (Recs.below (HM.out.1.alloc (.cells #[.string ⟨b.toArray⟩] 9)) hb4); have hs4 := (below_a1 hb4).size) | (at_builtin; refine wpList_pushR w4 rfl (.tmp 35) (.tmp 40) 31 rfl (R + 1) 34 3 40 _ Try.underlying31 info_Piece rfl (by decide) (by decide) _ (((acc ++ [pc])).map pcR) (pcR (markL b)) _ (by rfl) rfl (one_pcR _) (by rfl) HR4.out (by rfl) (by simp; omega) (by omega) _ ?_; intro v5 w5 hr5 hg5; have hx5 := block_grown (block_below HM.out.2.2.2.2 (below_a1 hb4)) hg5 (fun e => hvx _ e rfl); have d0 := cell_at (j := 0) hx5; have d1 := cell_at (j := 1) hx5; simp only [List.getElem?_toArray, List.getElem?_cons_zero, List.getElem?_cons_succ] at d0 d1))
            exact ⟨⟨k + (a.length + b.length), st', cnt', (acc ++ [pc]) ++ [markL b], by omega, hs1, by omega, by simp; omega, by simp, Lib.hid (by have hA := HA.out; rw [endP, if_neg hbe] at hA; rw [← Nat.add_assoc] at hA ⊢; simpa using hA), Lib.hid (by rw [List.map_append]; exact hr5), Lib.hid ((HM.out.2.1.below (below_a1 hb4)).grown hg5 (fun j e => by have h9 := hvb j e; omega)), Lib.hid ((HM.out.2.2.1.trans (Two.of_below (below_a1 hb4))).grown hg5 (fun j e => by have h9 := hvb j e; omega)), Lib.hid (block_grown (block_below HM.out.2.2.2.1 (below_a1 hb4)) hg5 (fun e => by have h9 := hvb _ e; omega))⟩, by simp [intOf]; omega⟩
    · have h0 : ¬ (k : Int) < t.length := by omega
      have e1 : t.drop k = [] := List.drop_eq_nil_of_le (by omega)
      have hA := HA.out
      rw [e1, linesOf_nil, walkS] at hA
      have HA2 := Lib.hid hA
      clear hA HA
      have c0 := cell_at (j := 0) HF.out
      have c1 := cell_at (j := 1) HF.out
      have f0 := free_at (j := 0) HF.out
      have f1 := free_at (j := 1) HF.out
      simp only [List.getElem?_toArray, List.getElem?_cons_zero, List.getElem?_cons_succ] at c0 c1
      go_wp2
      refine end_tmp_cell rfl rfl rfl (store2 HF.out rfl) Try.underlying42 rfl (by kernel_rfl) ?_
      unfold WalkSays
      rw [← HA2.out]
      exact ⟨_, rfl, ((HR.out.setOld (Nat.lt_succ_self _)).setOld (Nat.lt_succ_self _)).base (by omega), (HX.out.setNew (by omega) (by omega) _).setNew (by omega) (by omega) _, (HT.out.setNew (by omega) _).setNew (by omega) _⟩
end Go.Proofs.Ytemiegbgnpcbiaa
