/- Subtitles (srt): what tells each line's pieces, walked. | Subtitles (srt): line.Walk with what tells each line's pieces. -/
import Derived.Test.YtndpcphmndfajaaGreatDoorZSrt1
import Derived.Deep.DeepCutAuto

namespace Go.Proofs.YtndpcphmndfajaaGreatDoor
open Go.RowKit
set_option linter.unusedVariables false

/-- what may stand next, and how many blocks there were, in their boxes -/
def Boxes (w : World) (bs bc st cnt : Nat) : Prop := w.heap[bs]? = some (.cells #[.int .i64 st] 3 (0, 0)) ∧ w.heap[bc]? = some (.cells #[.int .i64 cnt] 3 (0, 0))
theorem Boxes.lt {w : World} {bs bc st cnt : Nat} (h : Boxes w bs bc st cnt) : bs < w.heap.size ∧ bc < w.heap.size := ⟨(Array.getElem?_eq_some_iff.1 h.1).1, (Array.getElem?_eq_some_iff.1 h.2).1⟩
theorem Boxes.below {w w' : World} {bs bc st cnt : Nat} (h : Boxes w bs bc st cnt) (hb : Below w.heap.size w w') : Boxes w' bs bc st cnt := ⟨block_below h.1 hb, block_below h.2 hb⟩
theorem Boxes.alloc {w : World} {bs bc st cnt : Nat} (h : Boxes w bs bc st cnt) (o : Obj) : Boxes (w.alloc o) bs bc st cnt := ⟨(heap_alloc_old w o h.lt.1).trans h.1, (heap_alloc_old w o h.lt.2).trans h.2⟩
theorem Boxes.setS {w : World} {bs bc st cnt : Nat} (h : Boxes w bs bc st cnt) (hne : bs ≠ bc) (n : Nat) : Boxes (w.setCell ⟨bs, 0, none⟩ (.int .i64 n)) bs bc n cnt :=
  ⟨setCell_at h.1, (heap_set_other _ (fun e => hne e.symm)).trans h.2⟩
theorem Boxes.setC {w : World} {bs bc st cnt : Nat} (h : Boxes w bs bc st cnt) (hne : bs ≠ bc) (n : Nat) : Boxes (w.setCell ⟨bc, 0, none⟩ (.int .i64 n)) bs bc st n :=
  ⟨(heap_set_other _ hne).trans h.1, setCell_at h.2⟩
/-- only two blocks turn -/
structure Two (bs bc : Nat) (w w' : World) : Prop where
  os : w'.os = w.os
  tape : w'.tape = w.tape
  output : w'.output = w.output
  size : w.heap.size ≤ w'.heap.size
  block : ∀ k, k < w.heap.size → k ≠ bs → k ≠ bc → w'.heap[k]? = w.heap[k]?
theorem Two.trans {bs bc : Nat} {u v w : World} (h : Two bs bc u v) (k : Two bs bc v w) : Two bs bc u w :=
  ⟨k.os.trans h.os, k.tape.trans h.tape, k.output.trans h.output, Nat.le_trans h.size k.size, fun j hj h1 h2 => (k.block j (Nat.lt_of_lt_of_le hj h.size) h1 h2).trans (h.block j hj h1 h2)⟩
theorem Two.of_below {bs bc : Nat} {w w' : World} (h : Below w.heap.size w w') : Two bs bc w w' := ⟨h.os, h.tape, h.output, h.size, fun k hk _ _ => h.block k hk⟩
theorem Two.setS {bs bc : Nat} (w : World) (v : Value) : Two bs bc w (w.setCell ⟨bs, 0, none⟩ v) := ⟨rfl, rfl, rfl, by simp [World.setCell], fun k _ h1 _ => heap_set_other v h1⟩
theorem Two.setC {bs bc : Nat} (w : World) (v : Value) : Two bs bc w (w.setCell ⟨bc, 0, none⟩ v) := ⟨rfl, rfl, rfl, by simp [World.setCell], fun k _ _ h2 => heap_set_other v h2⟩
theorem Two.alloc {bs bc : Nat} (w : World) (o : Obj) : Two bs bc w (w.alloc o) := Two.of_below ((Below.refl _ _).alloc (Nat.le_refl _) o)
theorem Two.below {bs bc B : Nat} {w w' : World} (h : Two bs bc w w') (h1 : B ≤ bs) (h2 : B ≤ bc) (h3 : B ≤ w.heap.size) : Below B w w' :=
  ⟨h.os, h.tape, h.output, h.size, fun k hk => h.block k (by omega) (by omega) (by omega)⟩
theorem Two.drew {bs bc : Nat} {w w' : World} (h : Two bs bc w w') : Two bs bc w w'.drew := ⟨h.os, h.tape, h.output, h.size, h.block⟩
theorem Two.refl (bs bc : Nat) (w : World) : Two bs bc w w := ⟨rfl, rfl, rfl, Nat.le_refl _, fun _ _ _ _ => rfl⟩
theorem Recs.two {bs bc : Nat} {w w' : World} {base e size : Nat} {v : Value} {L : List (List Value)} (h : Recs w base e size v L) (k : Two bs bc w w') (h1 : bs < base) (h2 : bc < base) : Recs w' base e size v L := by
  refine ⟨h.1, h.2.1, ?_⟩
  rcases h.2.2 with hn | ⟨g, cap, cur, hv, hbs, hg, rest⟩
  · exact .inl hn
  · exact .inr ⟨g, cap, cur, hv, hbs, (k.block g (Array.getElem?_eq_some_iff.1 hg).1 (by omega) (by omega)).trans hg, rest⟩

/-- what was told of a line: nothing, or one piece -/
def Told (w : World) (base : Nat) (v : Value) (ps : List Pc) : Prop :=
  (ps = [] ∧ v = .slice none 0 0) ∨ ∃ p g, ps = [p] ∧ v = .slice (some ⟨g, 0, none⟩) 1 1 ∧ base ≤ g ∧ w.heap[g]? = some (.cells (pcR p).toArray 135 (0, 0))
def PiecesSay (bs bc st cnt : Nat) (s : List UInt8) (w : World) (e : Ending) (w' : World) : Prop :=
  match stepS st cnt s with
  | none => e = .returned (.tuple #[.slice none 0 0, .bool false]) ∧ Two bs bc w w'
  | some (st', cnt', ps) => ∃ v, e = .returned (.tuple #[v, .bool true]) ∧ Told w' w.heap.size v ps ∧ Boxes w' bs bc st' cnt' ∧ Two bs bc w w'

theorem mark_one (s : List UInt8) (w : World) (g : Nat) (hg : g = w.heap.size) (hs : s.length ≤ 1000000000) :
    Calls Tryz.prog 163 #[.slice (some ⟨g, 0, none⟩) 1 1] (w.alloc (.cells #[.string ⟨s.toArray⟩] 9)) fun e w' => e = .returned (.agg #[.bool true, .string ⟨#[109, 97, 114, 107]⟩, .string ⟨s.toArray⟩]) ∧
      Below (w.alloc (.cells #[.string ⟨s.toArray⟩] 9)).heap.size (w.alloc (.cells #[.string ⟨s.toArray⟩] 9)) w' := by
  subst hg
  have h := mark_any (some ⟨w.heap.size, 0, none⟩) 1 1 [s] _ (StrsAt.one w s 9) (by decide) (by decide) (by simpa using hs)
  have e : [s].flatten = s := by simp
  rw [e] at h
  exact h

set_option maxHeartbeats 2000000 in
set_option maxRecDepth 100000 in
theorem pieces_any (bs bc st cnt : Nat) (s : List UInt8) (w : World) (h : Boxes w bs bc st cnt) (hne : bs ≠ bc) (hs : s.length ≤ 1000000000) (hst : st ≤ 2) (hcnt : cnt ≤ 1000000000) :
    Calls Tryz.prog 321 #[.string ⟨s.toArray⟩, .pointer (some ⟨bs, 0, none⟩), .pointer (some ⟨bc, 0, none⟩)] w (PiecesSay bs bc st cnt s w) := by
  have HB := Lib.hid h
  have CM := Lib.hid (fun w g hg => mark_one s w g hg hs)
  have c0 := cell_at (j := 0) h.1
  have c1 := cell_at (j := 0) h.2
  have f0 := free_at (j := 0) h.1
  have f1 := free_at (j := 0) h.2
  simp only [List.getElem?_toArray, List.getElem?_cons_zero] at c0 c1
  have hlt := h.lt
  unfold PiecesSay stepS
  by_cases h1 : st = 1
  · subst h1
    rw [if_pos rfl]
    have CT := Lib.hid (fun w => times_any s w hs)
    unfold TimesSays at CT
    rcases hT : timesL s with _ | _
    · rw [hT] at CT
      simp only [Bool.false_eq_true, if_false]
      clear hT h
      go_enter Tryz.func321, Tryz.ntmps321
      go_wp2_with (go_at_call 322; refine (CT.out _).mono ?_; rintro e w1 ⟨rfl, hb1⟩)
      go_ret2
      exact ⟨rfl, Two.of_below hb1⟩
    · rw [hT] at CT
      simp only [if_true]
      clear hT h
      go_enter Tryz.func321, Tryz.ntmps321
      go_wp2_with (first | (go_at_call 322; refine (CT.out _).mono ?_; rintro e w1 ⟨rfl, hb1⟩; have HX := Lib.hid (HB.out.below hb1); have d0 := cell_at (j := 0) HX.out.1; have g0 := free_at (j := 0) HX.out.1; simp only [List.getElem?_toArray, List.getElem?_cons_zero] at d0) | (go_at_call 163; refine (CM.out _ _ (by simp)).mono ?_; rintro e w2 ⟨rfl, hb2⟩))
      go_ret2
      have hT := (Two.of_below (bs := bs) (bc := bc) hb1).trans ((Two.setS w1 (.int .i64 (2 : Nat))).trans ((Two.alloc _ _).trans (Two.of_below hb2)))
      exact ⟨_, rfl, .inr ⟨markL s, w2.heap.size, rfl, rfl, hT.size, at_a0 _ _ _⟩, (((HX.out.setS hne 2).alloc _).below hb2).alloc _, hT.trans (Two.alloc _ _)⟩
  · rw [if_neg h1]
    have t1 : ((st : Int) == 1) = false := by simp; omega
    by_cases h2 : s = []
    · subst h2
      rw [if_pos rfl]
      go_enter Tryz.func321, Tryz.ntmps321
      go_wp2
      go_ret2
      exact ⟨_, rfl, .inl ⟨rfl, rfl⟩, HB.out.setS hne 0, Two.setS _ _⟩
    · rw [if_neg h2]
      have hE : s.isEmpty = false := by cases s; exact absurd rfl h2; rfl
      by_cases h3 : st = 2
      · subst h3
        rw [if_pos rfl]
        have CX := Lib.hid (fun w => text_any [116, 101, 120, 116] s w)
        unfold pcV at CX
        clear h
        go_enter Tryz.func321, Tryz.ntmps321
        go_wp2_with (go_at_call 165; refine (CX.out _).mono ?_; rintro e w1 ⟨rfl, hb1⟩)
        go_ret2
        exact ⟨_, rfl, .inr ⟨sayP s, w1.heap.size, rfl, rfl, hb1.size, at_a0 _ _ _⟩, (HB.out.below hb1).alloc _, (Two.of_below hb1).trans (Two.alloc _ _)⟩
      · rw [if_neg h3]
        have t2 : ((st : Int) == 2) = false := by simp; omega
        have CD := Lib.hid (fun w => digits_any s w hs)
        rcases hD : digitsL s with _ | _
        · rw [hD] at CD
          simp only [Bool.false_eq_true, if_false]
          clear hD h
          go_enter Tryz.func321, Tryz.ntmps321
          go_wp2_with (go_at_call 83; refine (CD.out _).mono ?_; rintro e w1 ⟨rfl, rfl⟩)
          go_ret2
          exact ⟨rfl, Two.refl _ _ _⟩
        · rw [hD] at CD
          simp only [if_true]
          have hne' : bc ≠ bs := fun e => hne e.symm
          clear hD h
          go_enter Tryz.func321, Tryz.ntmps321
          go_wp2_with (first | (go_at_call 83; refine (CD.out _).mono ?_; rintro e w1 ⟨rfl, rfl⟩) | (go_at_call 163; refine (CM.out _ _ (by simp)).mono ?_; rintro e w2 ⟨rfl, hb2⟩))
          go_ret2
          have hT := (Two.setS (bs := bs) (bc := bc) w (.int .i64 (1 : Nat))).trans ((Two.setC _ (.int .i64 ((cnt + 1 : Nat) : Int))).trans ((Two.alloc _ _).trans (Two.of_below hb2)))
          exact ⟨_, rfl, .inr ⟨markL s, w2.heap.size, rfl, rfl, hT.size, at_a0 _ _ _⟩, ((((HB.out.setS hne 1).setC hne (cnt + 1)).alloc _).below hb2).alloc _, hT.trans (Two.alloc _ _)⟩
end Go.Proofs.YtndpcphmndfajaaGreatDoor

namespace Go.Proofs.YtndpcphmndfajaaGreatDoor
open Go.RowKit
set_option linter.unusedVariables false

/-- 'l = append(l, told...)', one record that lies at g -/
theorem wpList_pushAt {P : Program} (wr : World) {ops : Array Oper} {rest : List Oper} {o : Oper} {a : Act} {Q : Exit → Act → World → Prop} (hgd : o.guard = none) (s x : Operand) (t : TypeId)
    (ho : o.op = .call { callee := .builtin .append, args := #[s, x], argTypes := #[t, t] })
    (base e size bytes : Nat) (z : Value) (ht : P.underlying t = some (.slice e)) (hinfo : (P.info? e).map (fun i => (i.zero, i.size, i.bytes)) = some (some z, size, bytes)) (hzs : z.cells.size = size) (hsz : 0 < size) (hby : bytes ≤ 1000)
    (v : Value) (L : List (List Value)) (r : List Value) (g c : Nat) (hr : r.length = size) (h1 : ∀ u ∈ r, u.oneCell' = true) (hs : a.eval s = v) (hbuf : Recs wr base e size v L) (hx : a.eval x = .slice (some ⟨g, 0, none⟩) 1 c)
    (hnews : ∀ j u, r[j]? = some u → wr.cell? ⟨g, j, none⟩ = some u) (hlen : L.length ≤ 1000000000) (hbase : base ≤ wr.heap.size)
    (h : ∀ v' w', Recs w' base e size v' (L ++ [r]) → wr.grownBy w' v.ownBlock → wpList P ops Q rest (a.put o.dst v') w') :
    wpList P ops Q (o :: rest) a wr := by
  obtain ⟨i, hi, hz0, hz1, hz2⟩ := info_parts hinfo
  refine wpList_append_own _ hgd s x t ho base e i z size bytes ht hi hz0 hz1 hz2 hzs hsz v L.length L.flatten hs hbuf.2 ⟨g, 0, none⟩ 1 c r hx (by omega) ?_ h1 ?_ ?_ ?_ ?_
  · intro j u hj
    have : ((⟨g, 0, none⟩ : Addr).add j) = ⟨g, j, none⟩ := by rw [Go.WideShapes.add_plain, Nat.zero_add]
    rw [this]
    exact hnews j u hj
  · unfold maxLen; omega
  · have : (L.length + 1) * bytes ≤ 1000000001 * 1000 := Nat.mul_le_mul (by omega) hby
    omega
  · exact hbase
  · intro v' w' hown hg _
    refine h v' w' ⟨?_, ?_⟩ hg
    · intro q hq
      rcases List.mem_append.1 hq with hq | hq
      · exact hbuf.1 q hq
      · obtain rfl : q = r := by simpa using hq
        exact hr
    · rw [List.flatten_append, List.length_append]
      simpa using hown

theorem append_none {P : Program} {w : World} (t ty e : TypeId) (i : TypeInfo) (ht : P.underlying t = some (.slice e)) (hi : P.info? e = some i) {base size : Nat} {v : Value} {L : List (List Value)} (h : Recs w base e size v L) :
    (Builtin.append_ #[t, t] ty #[v, .slice none 0 0]).run P w = .ok v w := by
  rcases h.2.2 with ⟨rfl, h0⟩ | ⟨g, cap, cur, rfl, hb, hg, hn, _⟩
  · simp [Builtin.append_, run_underlying ht, sizeOf, typeInfo, hi, Builtin.lenOf, Builtin.firstCells]
  · simp [Builtin.append_, run_underlying ht, sizeOf, typeInfo, hi, Builtin.lenOf, Builtin.firstCells, loadCells, storeCells, hn]
theorem wpList_appendNone {P : Program} (wr : World) {ops : Array Oper} {rest : List Oper} {o : Oper} {a : Act} {Q : Exit → Act → World → Prop} (hgd : o.guard = none) (s x : Operand) (t : TypeId)
    (ho : o.op = .call { callee := .builtin .append, args := #[s, x], argTypes := #[t, t] })
    (base e size bytes : Nat) (z : Value) (ht : P.underlying t = some (.slice e)) (hinfo : (P.info? e).map (fun i => (i.zero, i.size, i.bytes)) = some (some z, size, bytes))
    (v : Value) (L : List (List Value)) (hs : a.eval s = v) (hbuf : Recs wr base e size v L) (hx : a.eval x = .slice none 0 0) (h : wpList P ops Q rest (a.put o.dst v) wr) : wpList P ops Q (o :: rest) a wr := by
  obtain ⟨i, hi, _, _, _⟩ := info_parts hinfo
  refine wpList_plain hgd fun K hK => ?_
  have hr := append_none (P := P) (w := wr) t o.type e i ht hi hbuf
  unfold Oper.wp
  simp only [execOp, ho, resolve, invoke, builtin, Sem.run_bind, Sem.run_pure, Result.andThen_ok, List.map_toArray, List.map_cons, List.map_nil, hs, hx, hr]
  exact hK _ _ h
theorem Recs.ne {w : World} {base e size b : Nat} {v : Value} {L : List (List Value)} {C : Array Value} {T : TypeId} {fr : Nat × Nat} (h : Recs w base e size v L) (hb : w.heap[b]? = some (.cells C T fr)) (hT : T ≠ e) : ∀ j, v.ownBlock = some j → j ≠ b := by
  intro j hj e1
  subst e1
  rcases h.2.2 with ⟨rfl, _⟩ | ⟨g, cap, cur, rfl, _, hg, _⟩
  · cases hj
  · simp only [Value.ownBlock, Option.some.injEq] at hj
    subst hj
    rw [hb] at hg
    injection hg with hg
    injection hg with _ h2 _
    exact hT h2
theorem info_Piece : (Tryz.prog.info? 135).map (fun i => (i.zero, i.size, i.bytes)) = some (some (.agg #[.bool false, .string ⟨#[]⟩, .string ⟨#[]⟩]), 3, 40) := by kernel_rfl
theorem one_pcR (p : Pc) : ∀ u ∈ pcR p, u.oneCell' = true := by
  intro u hu
  simp only [pcR, List.mem_cons, List.not_mem_nil, or_false] at hu
  rcases hu with rfl | rfl | rfl <;> rfl
theorem step_shape (st cnt : Nat) (s : List UInt8) (r : Nat × Nat × List Pc) (h : stepS st cnt s = some r) (hst : st ≤ 2) : r.1 ≤ 2 ∧ r.2.1 ≤ cnt + 1 ∧ (r.2.2 = [] ∨ ∃ p, r.2.2 = [p]) := by
  unfold stepS at h
  split at h
  · split at h
    · cases h; exact ⟨Nat.le_refl _, Nat.le_succ _, .inr ⟨_, rfl⟩⟩
    · cases h
  · split at h
    · cases h; exact ⟨Nat.zero_le _, Nat.le_succ _, .inl rfl⟩
    · split at h
      · cases h; exact ⟨Nat.le_refl _, Nat.le_succ _, .inr ⟨_, rfl⟩⟩
      · split at h
        · cases h; exact ⟨by show (1 : Nat) ≤ 2; decide, Nat.le_refl _, .inr ⟨_, rfl⟩⟩
        · cases h
theorem block_grown {w w' : World} {row : Option Nat} {b : Nat} {o : Obj} (h : w.heap[b]? = some o) (hg : w.grownBy w' row) (hne : row ≠ some b) : w'.heap[b]? = some o :=
  (hg.block b (Array.getElem?_eq_some_iff.1 h).1 (by first | exact hne | exact fun e => hne e.symm)).trans h
theorem block_two {w w' : World} {bs bc b : Nat} {o : Obj} (h : w.heap[b]? = some o) (hg : Two bs bc w w') (h1 : b ≠ bs) (h2 : b ≠ bc) : w'.heap[b]? = some o :=
  (hg.block b (Array.getElem?_eq_some_iff.1 h).1 h1 h2).trans h
theorem Two.grown {bs bc : Nat} {u w w' : World} {v : Value} (h : Two bs bc u w) (hg : w.grownBy w' v.ownBlock) (hv : ∀ k, v.ownBlock = some k → u.heap.size ≤ k) : Two bs bc u w' :=
  ⟨hg.os.trans h.os, hg.tape.trans h.tape, hg.output.trans h.output, Nat.le_trans h.size hg.size, fun k hk h1 h2 => (hg.block k (Nat.lt_of_lt_of_le hk h.size) (by intro e; have := hv k e.symm; omega)).trans (h.block k hk h1 h2)⟩
theorem Boxes.grown {w w' : World} {bs bc st cnt : Nat} {v : Value} (h : Boxes w bs bc st cnt) (hg : w.grownBy w' v.ownBlock) (hv : ∀ k, v.ownBlock = some k → bs < k ∧ bc < k) : Boxes w' bs bc st cnt :=
  ⟨block_grown h.1 hg (fun e => by have := hv _ e; omega), block_grown h.2 hg (fun e => by have := hv _ e; omega)⟩

theorem Two.setNew {bs bc b j : Nat} {u w : World} (h : Two bs bc u w) (hb : u.heap.size ≤ b) (v : Value) : Two bs bc u (w.setCell ⟨b, j, none⟩ v) :=
  ⟨h.os, h.tape, h.output, by simpa [World.setCell] using h.size, fun k hk h1 h2 => (heap_set_other v (by omega)).trans (h.block k hk h1 h2)⟩
theorem Boxes.setNew {bs bc b j st cnt : Nat} {w : World} (h : Boxes w bs bc st cnt) (h1 : bs ≠ b) (h2 : bc ≠ b) (v : Value) : Boxes (w.setCell ⟨b, j, none⟩ v) bs bc st cnt :=
  ⟨(heap_set_other v h1).trans h.1, (heap_set_other v h2).trans h.2⟩
theorem Recs.setOld {w : World} {base e size b j : Nat} {v u : Value} {L : List (List Value)} (h : Recs w base e size v L) (hb : b < base) : Recs (w.setCell ⟨b, j, none⟩ u) base e size v L := by
  refine ⟨h.1, h.2.1, ?_⟩
  rcases h.2.2 with hn | ⟨g, cap, cur, hv, hbs, hg, rest⟩
  · exact .inl hn
  · exact .inr ⟨g, cap, cur, hv, hbs, (heap_set_other u (by omega)).trans hg, rest⟩

def WalkSays (bs bc : Nat) (t : List UInt8) (w : World) (e : Ending) (w' : World) : Prop :=
  match walkS (linesOf t 0) 0 0 [] with
  | .error a => e = .returned (.tuple #[.slice none 0 0, .agg #[.int .i64 1, .int .i64 a]]) ∧ Two bs bc w w'
  | .ok (st, cnt, acc) => ∃ v, e = .returned (.tuple #[v, .agg #[.int .i64 0, .int .i64 0]]) ∧ Recs w' w.heap.size 135 3 v (acc.map pcR) ∧ Boxes w' bs bc st cnt ∧ Two bs bc w w'

/-- what holds in the midst of a round: the line's pieces are behind the others -/
def WMid (bs bc : Nat) (w : World) (R xb st cnt : Nat) (L : List Pc) (a b : List UInt8) (k : Nat) (v : Value) (wx : World) : Prop :=
  Recs wx (R + 1) 135 3 v (L.map pcR) ∧ Boxes wx bs bc st cnt ∧ Two bs bc w wx ∧ wx.heap[R]? = some (.cells #[.int .i64 0, .int .i64 0] 26 (0, 0)) ∧
  wx.heap[xb]? = some (.cells #[.string ⟨a.toArray⟩, .string ⟨b.toArray⟩, .int .i64 k] 234 (0, 0))

theorem told_nil {w : World} {base : Nat} {v : Value} (h : Told w base v []) : v = .slice none 0 0 := by
  rcases h with ⟨_, h⟩ | ⟨p, g, h, _⟩
  · exact h
  · cases h
theorem told_one {w : World} {base : Nat} {v : Value} {p : Pc} (h : Told w base v [p]) : ∃ g, v = .slice (some ⟨g, 0, none⟩) 1 1 ∧ base ≤ g ∧ ∀ j u, (pcR p)[j]? = some u → w.cell? ⟨g, j, none⟩ = some u := by
  rcases h with ⟨h, _⟩ | ⟨q, g, h, hv, hg, hc⟩
  · cases h
  · cases h
    exact ⟨g, hv, hg, fun j u hu => by rw [cell_at hc]; simpa using hu⟩

set_option maxHeartbeats 4000000 in
set_option maxRecDepth 100000 in
theorem walk_any (bs bc : Nat) (t : List UInt8) (w : World) (h : Boxes w bs bc 0 0) (hne : bs ≠ bc) (ht : t.length ≤ 1000000) :
    Calls Tryz.prog 205 #[.string ⟨t.toArray⟩, .func (.func 321) #[] #[.pointer (some ⟨bs, 0, none⟩), .pointer (some ⟨bc, 0, none⟩)]] w (WalkSays bs bc t w) := by
  have hlt := h.lt
  have H0 := Lib.hid h
  clear h
  generalize hR : w.heap.size = R at *
  go_enter Tryz.func205, Tryz.ntmps205
  go_wp2
  go_loopw [6, 7] (fun v i wr => ∃ (k st cnt : Nat) (acc : List Pc), k ≤ t.length ∧ st ≤ 2 ∧ cnt ≤ k ∧ acc.length ≤ 2 * k ∧ i = .int .i64 k ∧ Hid (walkS (linesOf (t.drop k) k) st cnt acc = walkS (linesOf t 0) 0 0 []) ∧
    Hid (Recs wr (R + 1) 135 3 v (acc.map pcR)) ∧ Hid (Boxes wr bs bc st cnt) ∧ Hid (Two bs bc w wr) ∧ Hid (wr.heap[R]? = some (.cells #[.int .i64 0, .int .i64 0] 26 (0, 0)))) (fun _ i _ => t.length - (intOf i).toNat)
  case atStart =>
    refine ⟨0, 0, 0, [], by omega, by omega, by omega, by simp, rfl, Lib.hid rfl, Lib.hid (Recs.nil _ _ _ _), Lib.hid (H0.out.alloc _), Lib.hid (Two.alloc _ _), Lib.hid ?_⟩
    rw [← hR]
    exact at_a0 _ _ _
  case round =>
    obtain ⟨k, st, cnt, acc, hk, hst, hcnt, hacc, rfl, HA, HR, HX, HT, HF⟩ := hrel
    have hRlt : R < wr.heap.size := (Array.getElem?_eq_some_iff.1 HF.out).1
    have hxl := HX.out.lt
    by_cases hlt2 : k < t.length
    · have h0 : (k : Int) < t.length := by omega
      have HN := Lib.hid (fun w => next_any t k w hk (by omega))
      have hne2 : t.drop k ≠ [] := by intro e; have := congrArg List.length e; rw [List.length_drop] at this; simp at this; omega
      have hcons := linesOf_cons (t.drop k) k hne2
      have hpos := line_pos (t.drop k) hne2
      have hl1 : (lineAt (t.drop k)).length + (endOf ((t.drop k).drop (lineAt (t.drop k)).length)).length ≤ (t.drop k).length := by
        have e1 := congrArg List.length (lineAt_pre (t.drop k))
        have e2 := (endOf_len ((t.drop k).drop (lineAt (t.drop k)).length)).1
        rw [List.length_append] at e1
        omega
      rw [List.length_drop] at hl1
      rw [List.drop_drop, List.drop_drop] at hcons
      rw [List.drop_drop] at hpos hl1
      have hA := HA.out
      rw [hcons, walkS] at hA
      simp only at hA
      clear hcons hne2 HA
      generalize lineAt (t.drop k) = a at *
      generalize endOf (t.drop (k + a.length)) = b at *
      have HP := Lib.hid (fun w h => pieces_any bs bc st cnt a w h hne (by omega) hst (by omega))
      unfold PiecesSay at HP
      rcases hS : stepS st cnt a with _ | ⟨st', cnt', ps⟩
      · rw [hS] at hA HP
        simp only at hA
        have HA := Lib.hid hA
        clear hA hS
        go_wp2_with (first | (go_at_call 260; refine (HN.out _).mono ?_; rintro e w1 ⟨rfl, hb1⟩; have HX1 := Lib.hid ((HX.out.below hb1).alloc (.cells #[.string ⟨a.toArray⟩, .string ⟨b.toArray⟩, .int .i64 k] 234))) | (go_at_call 321; refine (HP.out _ HX1.out).mono ?_; rintro e w2 ⟨rfl, h2⟩; have hf2 := block_two ((heap_alloc_old w1 (.cells #[.string ⟨a.toArray⟩, .string ⟨b.toArray⟩, .int .i64 k] 234) (Nat.lt_of_lt_of_le hRlt hb1.size)).trans (block_below HF.out hb1)) h2 (by omega) (by omega); have c0 := cell_at (j := 0) hf2; have c1 := cell_at (j := 1) hf2; have f0 := free_at (j := 0) hf2; have f1 := free_at (j := 1) hf2; simp only [List.getElem?_toArray, List.getElem?_cons_zero, List.getElem?_cons_succ] at c0 c1))
        refine end_tmp_cell rfl rfl rfl (store2 hf2 rfl) Tryz.underlying26 rfl (by kernel_rfl) ?_
        unfold WalkSays
        rw [← HA.out]
        exact ⟨rfl, ((((HT.out.trans (Two.of_below hb1)).trans (Two.alloc _ _)).trans h2).setNew (by omega) _).setNew (by omega) _⟩
      · rw [hS] at hA HP
        simp only at hA HP
        obtain ⟨hs1, hs2, hs3⟩ := step_shape _ _ _ _ hS hst
        simp only at hs1 hs2 hs3
        have HA := Lib.hid hA
        have CM := Lib.hid (fun w g hg => mark_one b w g hg (by omega))
        clear hA hS
        have hbox : ∀ w1 : World, Below wr.heap.size wr w1 → ∀ w2 : World, Two bs bc (w1.alloc (.cells #[.string ⟨a.toArray⟩, .string ⟨b.toArray⟩, .int .i64 k] 234)) w2 →
            w2.heap[w1.heap.size]? = some (.cells #[.string ⟨a.toArray⟩, .string ⟨b.toArray⟩, .int .i64 k] 234 (0, 0)) ∧ w2.heap[R]? = some (.cells #[.int .i64 0, .int .i64 0] 26 (0, 0)) ∧ Recs w2 (R + 1) 135 3 u6 (acc.map pcR) ∧ Two bs bc w w2 ∧ w1.heap.size < w2.heap.size ∧ R < w1.heap.size := by
          intro w1 hb1 w2 h2
          have hs := hb1.size
          refine ⟨block_two (at_a0 _ _ _) h2 (by omega) (by omega), block_two ((heap_alloc_old w1 _ (by omega)).trans (block_below HF.out hb1)) h2 (by omega) (by omega), ?_, ((HT.out.trans (Two.of_below hb1)).trans (Two.alloc _ _)).trans h2, ?_, by omega⟩
          · exact ((HR.out.below hb1).alloc _).two h2 (by omega) (by omega)
          · have := h2.size
            simp at this
            omega
        have HBOX := Lib.hid hbox
        clear hbox
        rcases hs3 with rfl | ⟨pc, rfl⟩
        · go_upto_region 8 with (first | (go_at_call 260; refine (HN.out _).mono ?_; rintro e w1 ⟨rfl, hb1⟩; have HX1 := Lib.hid ((HX.out.below hb1).alloc (.cells #[.string ⟨a.toArray⟩, .string ⟨b.toArray⟩, .int .i64 k] 234))) | (go_at_call 321; refine (HP.out _ HX1.out).mono ?_; rintro e w2 ⟨v2, rfl, ht2, hx2, h2⟩; obtain rfl := told_nil ht2; obtain ⟨q1, q2, q3, q4, q5, q6⟩ := HBOX.out _ hb1 _ h2; have HM := Lib.hid (show WMid bs bc w R w1.heap.size st' cnt' acc a b k u6 w2 from ⟨q3, hx2, q4, q2, q1⟩); clear ht2 hx2 h2 q1 q2 q4 hb1))
          generalize w1.heap.size = xb at *
          clear HX1 HBOX HX HT HF HR HN
          have hxw : xb ≠ R := by omega
          go_upto_region 9 with (at_builtin; refine wpList_appendNone w2 rfl (.tmp 29) (.tmp 30) 54 rfl (R + 1) 135 3 40 _ Tryz.underlying54 info_Piece u6 (acc.map pcR) (by rfl) q3 (by rfl) ?_)
          clear q3
          have c0 := cell_at (j := 0) HM.out.2.2.2.2
          have c1 := cell_at (j := 1) HM.out.2.2.2.2
          simp only [List.getElem?_toArray, List.getElem?_cons_zero, List.getElem?_cons_succ] at c0 c1
          have hvb := HM.out.1.lt
          have hvx := HM.out.1.ne HM.out.2.2.2.2 (by decide)
          by_cases hbe : b = []
          · subst hbe
            go_wp2
            exact ⟨⟨k + a.length, st', cnt', acc, by omega, hs1, by simp at hpos; omega, by simp at hpos ⊢; omega, by simp, Lib.hid (by have hA := HA.out; simp only [endP, if_true, List.append_nil, List.length_nil, Nat.add_zero] at hA ⊢; exact hA), Lib.hid (by simpa using HM.out.1), Lib.hid HM.out.2.1, Lib.hid HM.out.2.2.1, Lib.hid HM.out.2.2.2.1⟩, by simp [intOf] at hpos ⊢; omega⟩
          · have hbE : b.isEmpty = false := by cases b; exact absurd rfl hbe; rfl
            have hsz : R < w2.heap.size := (Array.getElem?_eq_some_iff.1 HM.out.2.2.2.1).1
            have hxz : xb < w2.heap.size := (Array.getElem?_eq_some_iff.1 HM.out.2.2.2.2).1
            go_wp2_with (first | (go_at_call 163; refine (CM.out _ _ (by simp)).mono ?_; rintro e w4 ⟨rfl, hb4⟩; have HR4 := Lib.hid (Recs.below (HM.out.1.alloc (.cells #[.string ⟨b.toArray⟩] 9)) hb4); have hs4 := (below_a1 hb4).size) | (at_builtin; refine wpList_pushR w4 rfl (.tmp 35) (.tmp 40) 54 rfl (R + 1) 135 3 40 _ Tryz.underlying54 info_Piece rfl (by decide) (by decide) _ ((acc).map pcR) (pcR (markL b)) _ (by rfl) rfl (one_pcR _) (by rfl) HR4.out (by rfl) (by simp; omega) (by omega) _ ?_; intro v5 w5 hr5 hg5; have hx5 := block_grown (block_below HM.out.2.2.2.2 (below_a1 hb4)) hg5 (fun e => hvx _ e rfl); have d0 := cell_at (j := 0) hx5; have d1 := cell_at (j := 1) hx5; simp only [List.getElem?_toArray, List.getElem?_cons_zero, List.getElem?_cons_succ] at d0 d1))
            exact ⟨⟨k + (a.length + b.length), st', cnt', acc ++ [markL b], by omega, hs1, by omega, by simp; omega, by simp, Lib.hid (by have hA := HA.out; rw [endP, if_neg hbe] at hA; rw [← Nat.add_assoc] at hA ⊢; simpa using hA), Lib.hid (by rw [List.map_append]; exact hr5), Lib.hid ((HM.out.2.1.below (below_a1 hb4)).grown hg5 (fun j e => by have h9 := hvb j e; omega)), Lib.hid ((HM.out.2.2.1.trans (Two.of_below (below_a1 hb4))).grown hg5 (fun j e => by have h9 := hvb j e; omega)), Lib.hid (block_grown (block_below HM.out.2.2.2.1 (below_a1 hb4)) hg5 (fun e => by have h9 := hvb _ e; omega))⟩, by simp [intOf]; omega⟩
        · have hvr := HR.out.lt
          have hal : (acc.map pcR).length ≤ 1000000000 := by rw [List.length_map]; omega
          go_upto_region 9 with (first | (go_at_call 260; refine (HN.out _).mono ?_; rintro e w1 ⟨rfl, hb1⟩; have HX1 := Lib.hid ((HX.out.below hb1).alloc (.cells #[.string ⟨a.toArray⟩, .string ⟨b.toArray⟩, .int .i64 k] 234))) | (go_at_call 321; refine (HP.out _ HX1.out).mono ?_; rintro e w2 ⟨v2, rfl, ht2, hx2, h2⟩; obtain ⟨g2, rfl, hg2, hcells⟩ := told_one ht2; obtain ⟨q1, q2, q3, q4, q5, q6⟩ := HBOX.out _ hb1 _ h2; have hs1' := hb1.size) | (at_builtin; refine wpList_pushAt w2 rfl (.tmp 29) (.tmp 30) 54 rfl (R + 1) 135 3 40 _ Tryz.underlying54 info_Piece rfl (by decide) (by decide) u6 (acc.map pcR) (pcR pc) g2 1 rfl (one_pcR _) (by rfl) q3 (by rfl) hcells hal (by omega) ?_; intro v3 w3 hr3 hg3; have HM := Lib.hid (show WMid bs bc w R w1.heap.size st' cnt' (acc ++ [pc]) a b k v3 w3 from ⟨by rw [List.map_append]; exact hr3, hx2.grown hg3 (fun j e => by have h9 := hvr j e; omega), q4.grown hg3 (fun j e => by have h9 := hvr j e; omega), block_grown q2 hg3 (fun e => by have h9 := hvr _ e; omega), block_grown q1 hg3 (fun e => by have h9 := hvr _ e; omega)⟩)))
          clear HX1 HBOX HX HT HF HR HN ht2 hx2 h2 q1 q2 q3 q4 hb1 hr3 hg3 hcells
          generalize w1.heap.size = xb at *
          have hxw : xb ≠ R := by omega
          have c0 := cell_at (j := 0) HM.out.2.2.2.2
          have c1 := cell_at (j := 1) HM.out.2.2.2.2
          simp only [List.getElem?_toArray, List.getElem?_cons_zero, List.getElem?_cons_succ] at c0 c1
          have hvb := HM.out.1.lt
          have hvx := HM.out.1.ne HM.out.2.2.2.2 (by decide)
          by_cases hbe : b = []
          · subst hbe
            go_wp2
            exact ⟨⟨k + a.length, st', cnt', (acc ++ [pc]), by omega, hs1, by simp at hpos; omega, by simp at hpos ⊢; omega, by simp, Lib.hid (by have hA := HA.out; simp only [endP, if_true, List.append_nil, List.length_nil, Nat.add_zero] at hA ⊢; exact hA), Lib.hid (by simpa using HM.out.1), Lib.hid HM.out.2.1, Lib.hid HM.out.2.2.1, Lib.hid HM.out.2.2.2.1⟩, by simp [intOf] at hpos ⊢; omega⟩
          · have hbE : b.isEmpty = false := by cases b; exact absurd rfl hbe; rfl
            have hsz : R < w3.heap.size := (Array.getElem?_eq_some_iff.1 HM.out.2.2.2.1).1
            have hxz : xb < w3.heap.size := (Array.getElem?_eq_some_iff.1 HM.out.2.2.2.2).1
            go_wp2_with (first | (go_at_call 163; refine (CM.out _ _ (by simp)).mono ?_; rintro e w4 ⟨rfl, hb4⟩; have HR4 := Lib.hid (Recs.below (HM.out.1.alloc (.cells #[.string ⟨b.toArray⟩] 9)) hb4); have hs4 := (below_a1 hb4).size) | (at_builtin; refine wpList_pushR w4 rfl (.tmp 35) (.tmp 40) 54 rfl (R + 1) 135 3 40 _ Tryz.underlying54 info_Piece rfl (by decide) (by decide) _ (((acc ++ [pc])).map pcR) (pcR (markL b)) _ (by rfl) rfl (one_pcR _) (by rfl) HR4.out (by rfl) (by simp; omega) (by omega) _ ?_; intro v5 w5 hr5 hg5; have hx5 := block_grown (block_below HM.out.2.2.2.2 (below_a1 hb4)) hg5 (fun e => hvx _ e rfl); have d0 := cell_at (j := 0) hx5; have d1 := cell_at (j := 1) hx5; simp only [List.getElem?_toArray, List.getElem?_cons_zero, List.getElem?_cons_succ] at d0 d1))
            exact ⟨⟨k + (a.length + b.length), st', cnt', (acc ++ [pc]) ++ [markL b], by omega, hs1, by omega, by simp; omega, by simp, Lib.hid (by have hA := HA.out; rw [endP, if_neg hbe] at hA; rw [← Nat.add_assoc] at hA ⊢; simpa using hA), Lib.hid (by rw [List.map_append]; exact hr5), Lib.hid ((HM.out.2.1.below (below_a1 hb4)).grown hg5 (fun j e => by have h9 := hvb j e; omega)), Lib.hid ((HM.out.2.2.1.trans (Two.of_below (below_a1 hb4))).grown hg5 (fun j e => by have h9 := hvb j e; omega)), Lib.hid (block_grown (block_below HM.out.2.2.2.1 (below_a1 hb4)) hg5 (fun e => by have h9 := hvb _ e; omega))⟩, by simp [intOf]; omega⟩
    · have h0 : ¬ (k : Int) < t.length := by omega
      have e1 : t.drop k = [] := List.drop_eq_nil_of_le (by omega)
      have hA := HA.out
      rw [e1, linesOf_nil, walkS] at hA
      have HA2 := Lib.hid hA
      clear hA HA
      have c0 := cell_at (j := 0) HF.out
      have c1 := cell_at (j := 1) HF.out
      have f0 := free_at (j := 0) HF.out
      have f1 := free_at (j := 1) HF.out
      simp only [List.getElem?_toArray, List.getElem?_cons_zero, List.getElem?_cons_succ] at c0 c1
      go_wp2
      refine end_tmp_cell rfl rfl rfl (store2 HF.out rfl) Tryz.underlying26 rfl (by kernel_rfl) ?_
      unfold WalkSays
      rw [← HA2.out]
      exact ⟨_, rfl, ((HR.out.setOld (Nat.lt_succ_self _)).setOld (Nat.lt_succ_self _)).base (by omega), (HX.out.setNew (by omega) (by omega) _).setNew (by omega) (by omega) _, (HT.out.setNew (by omega) _).setNew (by omega) _⟩
end Go.Proofs.YtndpcphmndfajaaGreatDoor
