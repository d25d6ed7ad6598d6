/- The evaluator: regions that draw their order: what the evaluator's own run shows. | The evaluator: a region that draws its order: whatever the order, what comes out is the evaluator's. | The evaluator: a region that draws its order: the invariant, and what is shown of the region. -/
import Derived.Test.YtndpcphmndfajaaGreatDoorZEv13

namespace Go.Proofs.YtndpcphmndfajaaGreatDoor
open Go.RowKit
set_option linter.unusedVariables false
set_option linter.unusedSimpArgs false

/-! ### What stands before an operation -/
theorem edgesOk_spec : ∀ {es : List Edge} {i : Nat}, edgesOk es i = true → ∀ e ∈ es, Region.binds .any e = true → e.on < i
  | [], _, _, e, he, _ => by cases he
  | e0 :: es, i, h, e, he, hb => by
    unfold edgesOk at h
    cases hb0 : Region.binds .any e0 with
    | true =>
      rw [hb0] at h
      simp only [Bool.and_eq_true] at h
      rcases List.mem_cons.1 he with rfl | he
      · exact blt_t h.1
      · exact edgesOk_spec h.2 e he hb
    | false =>
      rw [hb0] at h
      rcases List.mem_cons.1 he with rfl | he
      · rw [hb0] at hb; cases hb
      · exact edgesOk_spec h e he hb
theorem befE_spec {acc : List Nat} : ∀ {es : List Edge} {m k : Nat}, (befE acc es m).testBit k = true → m.testBit k = true ∨ ∃ e ∈ es, Region.binds .any e = true ∧ (k = e.on ∨ (acc.getD e.on 0).testBit k = true)
  | [], m, k, h => .inl h
  | e :: es, m, k, h => by
    unfold befE at h
    cases hb : Region.binds .any e with
    | true =>
      rw [hb] at h
      rcases befE_spec h with h1 | ⟨e', he, h2⟩
      · have e1 : Nat.lor m (Nat.lor (Nat.shiftLeft 1 e.on) (acc.getD e.on 0)) = m ||| ((1 <<< e.on) ||| (acc.getD e.on 0)) := rfl
        rw [e1, Nat.testBit_or, Nat.testBit_or, Nat.one_shiftLeft, Nat.testBit_two_pow] at h1
        simp only [Bool.or_eq_true, decide_eq_true_eq] at h1
        rcases h1 with h1 | h1 | h1
        · exact .inl h1
        · exact .inr ⟨e, by simp, hb, .inl h1.symm⟩
        · exact .inr ⟨e, by simp, hb, .inr h1⟩
      · exact .inr ⟨e', by simp [he], h2⟩
    | false =>
      rw [hb] at h
      rcases befE_spec h with h1 | ⟨e', he, h2⟩
      · exact .inl h1
      · exact .inr ⟨e', by simp [he], h2⟩
theorem befs_app : ∀ (l : List Oper) (acc : List Nat), ∃ r, befs l acc = acc ++ r ∧ r.length = l.length
  | [], acc => ⟨[], by simp [befs], rfl⟩
  | o :: l, acc => by
    obtain ⟨r, h1, h2⟩ := befs_app l (acc ++ [befE acc o.after.toList 0])
    exact ⟨befE acc o.after.toList 0 :: r, by simp [befs, h1], by simp [h2]⟩
theorem befs_get : ∀ (l : List Oper) (acc : List Nat) (j : Nat) (o : Oper), l[j]? = some o → ∃ m pre, (befs l acc)[acc.length + j]? = some m ∧ pre = (befs l acc).take (acc.length + j) ∧ m = befE pre o.after.toList 0
  | [], acc, j, o, h => by simp at h
  | o' :: l, acc, 0, o, h => by
    simp only [List.getElem?_cons_zero, Option.some.injEq] at h
    subst h
    obtain ⟨r, h1, h2⟩ := befs_app l (acc ++ [befE acc o'.after.toList 0])
    refine ⟨befE acc o'.after.toList 0, acc, ?_, ?_, rfl⟩
    · simp [befs, h1]
    · simp [befs, h1]
  | o' :: l, acc, j + 1, o, h => by
    simp only [List.getElem?_cons_succ] at h
    obtain ⟨m, pre, h1, h2, h3⟩ := befs_get l (acc ++ [befE acc o'.after.toList 0]) j o h
    simp only [List.length_append, List.length_singleton] at h1 h2
    refine ⟨m, pre, ?_, ?_, h3⟩
    · simp only [befs]; rw [show acc.length + (j + 1) = acc.length + 1 + j by omega]; exact h1
    · simp only [befs]; rw [show acc.length + (j + 1) = acc.length + 1 + j by omega]; exact h2

section
variable {ops : Array Oper}
/-- Operation i stands before operation j. -/
def Ord (ops : Array Oper) (i j : Nat) : Prop := ((befs ops.toList []).getD j 0).testBit i = true
theorem ord_edge {i j : Nat} {o : Oper} (ho : ops[j]? = some o) (h : Ord ops i j) (he : edgesOk o.after.toList j = true) : ∃ e ∈ o.after.toList, Region.binds .any e = true ∧ e.on < j ∧ (i = e.on ∨ Ord ops i e.on) := by
  obtain ⟨m, pre, h1, h2, h3⟩ := befs_get ops.toList [] j o (by simpa using ho)
  simp only [List.length_nil, Nat.zero_add] at h1 h2
  unfold Ord at h
  rw [List.getD_eq_getElem?_getD, h1] at h
  simp only [Option.getD_some, h3] at h
  rcases befE_spec h with h4 | ⟨e, he1, he2, h5⟩
  · simp at h4
  · have hlt := edgesOk_spec he e he1 he2
    refine ⟨e, he1, he2, hlt, h5.imp id fun h6 => ?_⟩
    unfold Ord
    rw [h2, List.getD_eq_getElem?_getD, List.getElem?_take, if_pos hlt] at h6
    rw [List.getD_eq_getElem?_getD]
    exact h6

theorem apartAll_spec {x : Oper} {i : Nat} : ∀ {l : List Oper} {bs : List Nat}, apartAll ops x i l bs = true → ∀ j y, l[j]? = some y → ((bs.getD j 0).testBit i = true ∨ Oper.apart ops x y = true)
  | [], _, _, j, y, h => by simp at h
  | z :: l, [], h, _, _, _ => by simp [apartAll] at h
  | z :: l, m :: bs, h, j, y, hy => by
    simp only [apartAll, Bool.and_eq_true, Bool.or_eq_true] at h
    cases j with
    | zero =>
      simp only [List.getElem?_cons_zero, Option.some.injEq] at hy
      subst hy
      simpa using h.1
    | succ j =>
      simp only [List.getElem?_cons_succ] at hy
      simpa using apartAll_spec h.2 j y hy
theorem regOk_spec : ∀ {l : List Oper} {i : Nat} {bs : List Nat}, regOk ops i l bs = true → ∀ j x, l[j]? = some x → edgesOk x.after.toList (i + j) = true ∧ ∀ k y, j < k → l[k]? = some y → ((bs.getD k 0).testBit (i + j) = true ∨ Oper.apart ops x y = true)
  | [], _, _, _, j, x, h => by simp at h
  | z :: l, i, bs, h, j, x, hx => by
    simp only [regOk, Bool.and_eq_true] at h
    cases j with
    | zero =>
      simp only [List.getElem?_cons_zero, Option.some.injEq] at hx
      subst hx
      refine ⟨h.1.1, fun k y hk hy => ?_⟩
      obtain ⟨k, rfl⟩ : ∃ q, k = q + 1 := ⟨k - 1, by omega⟩
      simp only [List.getElem?_cons_succ] at hy
      have := apartAll_spec h.1.2 k y hy
      simpa [List.getD_eq_getElem?_getD, Nat.add_comm] using this
    | succ j =>
      simp only [List.getElem?_cons_succ] at hx
      obtain ⟨h1, h2⟩ := regOk_spec h.2 j x hx
      refine ⟨by rw [show i + (j + 1) = i + 1 + j by omega]; exact h1, fun k y hk hy => ?_⟩
      obtain ⟨k, rfl⟩ : ∃ q, k = q + 1 := ⟨k - 1, by omega⟩
      simp only [List.getElem?_cons_succ] at hy
      have := h2 k y (by omega) hy
      rw [show i + (j + 1) = i + 1 + j by omega]
      simpa [List.getD_eq_getElem?_getD, Nat.add_comm] using this
end

theorem memOk_spec {m : Nat} {t : Tr} : ∀ {l : List Tr} {i : Nat}, memOk m t i l = true → ∀ j u, l[j]? = some u → (m.testBit (i + j) = true ∨ (Nat.land u.ww t.rr = 0 ∧ Nat.land t.ww u.rr = 0))
  | [], _, _, j, u, h => by simp at h
  | z :: l, i, h, j, u, hu => by
    simp only [memOk, Bool.and_eq_true, Bool.or_eq_true] at h
    cases j with
    | zero =>
      simp only [List.getElem?_cons_zero, Option.some.injEq] at hu
      subst hu
      exact h.1.imp id fun q => ⟨Nat.eq_of_beq_eq_true q.1, Nat.eq_of_beq_eq_true q.2⟩
    | succ j =>
      simp only [List.getElem?_cons_succ] at hu
      rw [show i + (j + 1) = i + 1 + j by omega]
      exact memOk_spec h.2 j u hu

/-! ### The run, operation by operation -/
def zr (S : St) : St := { S with r := 0, w := 0 }
def mg (S S1 : St) : St := { S1 with r := Nat.lor S.r S1.r, w := Nat.lor S.w S1.w }
structure RunE (X : Cx) (C : CallF) (ops : Array Oper) (n : Nat) (st rs : Nat → St) (vs : Nat → SV) : Prop where
  one : ∀ j o, ops[j]? = some o → evOne X.E C ops (zr (st j)) o = some (vs j, rs j)
  put : ∀ j o, ops[j]? = some o → (mg (st j) (rs j)).put o.dst (vs j) = some (st (j + 1))
  mem : ∀ i j o, ops[j]? = some o → i < j → Ord ops i j ∨ (Nat.land (trOf (st i) (rs i)).ww (trOf (st j) (rs j)).rr = 0 ∧ Nat.land (trOf (st j) (rs j)).ww (trOf (st i) (rs i)).rr = 0)

theorem drawK_inv {r : Option (SV × St)} {S S2 : St} {d : Option Tmp} {m : Nat} {tr : List Tr} {t : Tr} (h : drawK r S d m tr = some (S2, t)) :
    ∃ v S1, r = some (v, S1) ∧ t = trOf S S1 ∧ memOk m t 0 tr = true ∧ (mg S S1).put d v = some S2 := by
  cases r with
  | none => cases h
  | some q =>
    obtain ⟨v, S1⟩ := q
    simp only [drawK] at h
    cases hm : memOk m (trOf S S1) 0 tr with
    | false => rw [hm] at h; cases h
    | true =>
      rw [hm] at h
      simp only [drawM] at h
      cases hp : (mg S S1).put d v with
      | none =>
        have : ({ S1 with r := Nat.lor S.r S1.r, w := Nat.lor S.w S1.w } : St).put d v = none := hp
        rw [this] at h; cases h
      | some S3 =>
        have : ({ S1 with r := Nat.lor S.r S1.r, w := Nat.lor S.w S1.w } : St).put d v = some S3 := hp
        rw [this] at h
        simp only [Option.some.injEq, Prod.mk.injEq] at h
        obtain ⟨rfl, rfl⟩ := h
        exact ⟨v, S1, rfl, rfl, hm, hp⟩
theorem contD_inv {r : Option (St × Tr)} {k : Tr → St → Option St} {S : St} (h : contD r k = some S) : ∃ S1 t, r = some (S1, t) ∧ k t S1 = some S := by
  cases r with
  | none => cases h
  | some q => exact ⟨q.1, q.2, rfl, h⟩
theorem draw_trace {X : Cx} {C : CallF} {ops : Array Oper} : ∀ {l : List Oper} {ms : List Nat} {tr : List Tr} {S S' : St} (k : Nat), evDraw l ms X.E C ops tr S = some S' →
    ∃ (st rs : Nat → St) (vs : Nat → SV), st k = S ∧ st (k + l.length) = S' ∧ ∀ j o, l[j]? = some o → ∃ m, ms[j]? = some m ∧ evOne X.E C ops (zr (st (k + j))) o = some (vs (k + j), rs (k + j)) ∧
      (mg (st (k + j)) (rs (k + j))).put o.dst (vs (k + j)) = some (st (k + j + 1)) ∧ memOk m (trOf (st (k + j)) (rs (k + j))) 0 (tr ++ (List.range j).map (fun i => trOf (st (k + i)) (rs (k + i)))) = true
  | [], ms, tr, S, S', k, h => by
    simp only [evDraw, Option.some.injEq] at h
    subst h
    exact ⟨fun _ => S, fun _ => S, fun _ => .und, rfl, rfl, fun j o hj => by simp at hj⟩
  | o :: l, [], tr, S, S', k, h => by simp [evDraw] at h
  | o :: l, m :: ms, tr, S, S', k, h => by
    simp only [evDraw] at h
    obtain ⟨S2, t, h1, h2⟩ := contD_inv h
    obtain ⟨v, S1, h3, h4, h5, h6⟩ := drawK_inv h1
    obtain ⟨st, rs, vs, g1, g2, g3⟩ := draw_trace (k + 1) h2
    refine ⟨fun j => if j = k then S else st j, fun j => if j = k then S1 else rs j, fun j => if j = k then v else vs j, by simp, ?_, fun j q hq => ?_⟩
    · simp only [List.length_cons]
      rw [if_neg (by omega), show k + (l.length + 1) = k + 1 + l.length by omega]
      exact g2
    · cases j with
      | zero =>
        simp only [List.getElem?_cons_zero, Option.some.injEq] at hq
        subst hq
        refine ⟨m, rfl, ?_, ?_, ?_⟩
        · simp only [Nat.add_zero, if_true]; exact h3
        · simp only [Nat.add_zero, if_true]
          rw [if_neg (by omega), g1]
          exact h6
        · simp only [Nat.add_zero, if_true, List.range_zero, List.map_nil, List.append_nil]
          rw [← h4]; exact h5
      | succ j =>
        simp only [List.getElem?_cons_succ] at hq
        obtain ⟨m', q1, q2, q3, q4⟩ := g3 j q hq
        rw [show k + 1 + j = k + (j + 1) by omega] at q2 q3 q4
        refine ⟨m', by simpa using q1, ?_, ?_, ?_⟩
        · simp only; rw [if_neg (by omega), if_neg (by omega), if_neg (by omega)]; exact q2
        · simp only; rw [if_neg (by omega), if_neg (by omega), if_neg (by omega), if_neg (by omega)]; exact q3
        · simp only
          rw [if_neg (by omega), if_neg (by omega), List.range_succ_eq_map]
          simp only [List.map_cons, Nat.add_zero, if_true, List.map_map]
          have e1 : (List.range j).map (((fun i => trOf (if k + i = k then S else st (k + i)) (if k + i = k then S1 else rs (k + i)))) ∘ Nat.succ) = (List.range j).map (fun i => trOf (st (k + 1 + i)) (rs (k + 1 + i))) := by
            apply List.map_congr_left
            intro i _
            simp only [Function.comp]
            rw [if_neg (by omega), if_neg (by omega), show k + Nat.succ i = k + 1 + i by omega]
          rw [e1]
          rw [h4] at q4
          simpa using q4
theorem run_of_draw {X : Cx} {C : CallF} {ops : Array Oper} {S S' : St} (h : evDraw ops.toList (befs ops.toList []) X.E C ops [] S = some S') :
    ∃ st rs vs, st 0 = S ∧ st ops.size = S' ∧ RunE X C ops ops.size st rs vs := by
  obtain ⟨st, rs, vs, h1, h2, h3⟩ := draw_trace 0 h
  refine ⟨st, rs, vs, h1, by simpa using h2, ?_, ?_, ?_⟩
  · intro j o ho
    obtain ⟨m, _, q, _⟩ := h3 j o (by simpa using ho)
    simpa using q
  · intro j o ho
    obtain ⟨m, _, _, q, _⟩ := h3 j o (by simpa using ho)
    simpa using q
  · intro i j o ho hij
    obtain ⟨m, q1, _, _, q4⟩ := h3 j o (by simpa using ho)
    simp only [Nat.zero_add, List.nil_append] at q4
    have := memOk_spec q4 i (trOf (st i) (rs i)) (by simp [hij])
    simp only [Nat.zero_add] at this
    refine this.imp (fun hb => ?_) id
    unfold Ord
    rw [List.getD_eq_getElem?_getD, q1]
    exact hb
end Go.Proofs.YtndpcphmndfajaaGreatDoor

namespace Go.Proofs.YtndpcphmndfajaaGreatDoor
open Go.RowKit
set_option linter.unusedVariables false
set_option linter.unusedSimpArgs false

theorem bit_new (c c' b : Nat) (h : c ≤ c') : (Nat.sub (Nat.shiftLeft 1 c') (Nat.shiftLeft 1 c)).testBit b = decide (c ≤ b ∧ b < c') := by
  have e : Nat.sub (Nat.shiftLeft 1 c') (Nat.shiftLeft 1 c) = (2 ^ (c' - c) - 1) <<< c := by
    have e1 : Nat.shiftLeft 1 c' = 2 ^ c' := by show 1 <<< c' = _; rw [Nat.one_shiftLeft]
    have e2 : Nat.shiftLeft 1 c = 2 ^ c := by show 1 <<< c = _; rw [Nat.one_shiftLeft]
    rw [e1, e2, Nat.shiftLeft_eq]
    show 2 ^ c' - 2 ^ c = _
    have : 2 ^ c' = 2 ^ (c' - c) * 2 ^ c := by rw [← Nat.pow_add]; congr 1; omega
    rw [this, Nat.sub_mul, Nat.one_mul]
  rw [e, Nat.testBit_shiftLeft, Nat.testBit_two_pow_sub_one]
  by_cases h1 : c ≤ b
  · simp [h1]; omega
  · simp [h1]
theorem land_zero {a b : Nat} (h : Nat.land a b = 0) (k : Nat) (ha : a.testBit k = true) (hb : b.testBit k = true) : False := by
  have e : a &&& b = 0 := h
  have : (a &&& b).testBit k = true := by rw [Nat.testBit_and, ha, hb]; rfl
  rw [e] at this
  simp at this
theorem lor_bit (a b k : Nat) : (Nat.lor a b).testBit k = (a.testBit k || b.testBit k) := by
  have : Nat.lor a b = a ||| b := rfl
  rw [this, Nat.testBit_or]

theorem Stp.join {m c c' : Nat} {H : TR LB} {ρ σ τ : Ren} {w w' w'' : World} (h : Stp m c c' H ρ σ w w') (k : Stp m c c' H σ τ w' w'') : Stp m c c' H ρ τ w w'' where
  le := h.le.trans k.le
  nr b n hr hd := by
    rcases k.nr b n hr hd with h1 | ⟨h1, h2, h3⟩
    · exact h.nr b n h1 (fun e => hd (k.le.d _ e))
    · refine .inr ⟨h1, h2, ?_⟩
      rcases h3 with h3 | ⟨q, a1, a2, a3⟩
      · exact .inl (Nat.le_trans h.sz h3)
      · rcases h.nr q n a3 a2 with h4 | ⟨h4, h5, h6⟩
        · exact .inr ⟨q, a1, fun e => a2 (h.le.d _ e), h4⟩
        · exact h6
  nd b hd := by
    rcases k.nd b hd with h1 | h1
    · exact h.nd b h1
    · exact .inr h1
  nq b n hr := by
    rcases k.nq b n hr with h1 | h1
    · exact h.nq b n h1
    · exact .inr h1
  sz := Nat.le_trans h.sz k.sz
  un n hn' hk := by
    rw [k.un n (Nat.lt_of_lt_of_le hn' h.sz) (fun q a1 a2 a3 => by
      rcases h.nr q n a3 a2 with h4 | ⟨h4, h5, h6⟩
      · exact hk q a1 (fun e => a2 (h.le.d _ e)) h4
      · rcases h6 with h6 | ⟨q', b1, b2, b3⟩
        · omega
        · exact hk q' b1 b2 b3), h.un n hn' hk]
  st := ⟨k.st.1.trans h.st.1, k.st.2.1.trans h.st.2.1, k.st.2.2.trans h.st.2.2⟩
theorem Stp.weak {m m' c c' d d' : Nat} {H H' : TR LB} {ρ σ : Ren} {w w' : World} (h : Stp m c c' H ρ σ w w') (hm : ∀ b, m.testBit b = true → m'.testBit b = true) (hc : d ≤ c) (hc' : c' ≤ d') (hn : ∀ b, b < c' → H.get b = none → H'.get b = none) : Stp m' d d' H' ρ σ w w' where
  le := h.le
  nr b n hr hd := by
    rcases h.nr b n hr hd with h1 | ⟨h1, h2, h3⟩
    · exact .inl h1
    · exact .inr ⟨by omega, by omega, h3.imp id fun ⟨q, a1, a2⟩ => ⟨q, hm _ a1, a2⟩⟩
  nd b hd := by
    rcases h.nd b hd with h1 | ⟨h1, h2, h3⟩
    · exact .inl h1
    · exact .inr ⟨by omega, hm _ h2, hn b h1 h3⟩
  nq b n hr := (h.nq b n hr).imp id fun h1 => ⟨by omega, by omega⟩
  sz := h.sz
  un n hn' hk := h.un n hn' fun q a1 a2 a3 => hk q (hm _ a1) a2 a3
  st := h.st

section
variable {X : Cx} {C : CallF} {ops : Array Oper} {st rs : Nat → St} {vs : Nat → SV}

/-- Operation j makes or turns the block b. -/
def Wn (st rs : Nat → St) (j b : Nat) : Prop := (trOf (st j) (rs j)).ww.testBit b = true
def Rn (st rs : Nat → St) (j b : Nat) : Prop := (trOf (st j) (rs j)).rr.testBit b = true
theorem wn_iff {j b : Nat} (h : (st j).c ≤ (rs j).c) : Wn st rs j b ↔ ((rs j).w.testBit b = true ∨ ((st j).c ≤ b ∧ b < (rs j).c)) := by
  unfold Wn trOf
  simp only [lor_bit, bit_new _ _ _ h, Bool.or_eq_true, decide_eq_true_eq]
theorem rn_iff {j b : Nat} : Rn st rs j b ↔ ((rs j).r.testBit b = true ∨ (rs j).w.testBit b = true) := by
  unfold Rn trOf
  simp only [lor_bit, Bool.or_eq_true]

/-- All that holds of the evaluator's run. -/
structure Canon (X : Cx) (C : CallF) (ops : Array Oper) (st rs : Nat → St) (vs : Nat → SV) : Prop where
  ok : ∀ k, k ≤ ops.size → OkE (st k)
  okr : ∀ k, k < ops.size → OkE (rs k)
  ext : ∀ k, k < ops.size → Ext (zr (st k)) (rs k)
  H : ∀ k, k < ops.size → (st (k + 1)).H = (rs k).H ∧ (st (k + 1)).c = (rs k).c ∧ (st (k + 1)).w = Nat.lor (st k).w (rs k).w ∧ (st (k + 1)).r = Nat.lor (st k).r (rs k).r ∧ (st (k + 1)).nt = (st k).nt ∧ (st (k + 1)).ng = (st k).ng
  T : ∀ k o, ops[k]? = some o → ∀ t, (st (k + 1)).T.get t = if o.dst = some t then some (vs k) else (st k).T.get t
  lt : ∀ k o t, ops[k]? = some o → o.dst = some t → t < (st k).nt
theorem canon (hC : CallsSim X C) (h : RunE X C ops ops.size st rs vs) (h0 : OkE (st 0)) : Canon X C ops st rs vs := by
  have hop : ∀ k, k < ops.size → ∃ o, ops[k]? = some o := fun k hk => ⟨_, Array.getElem?_eq_getElem hk⟩
  have step : ∀ k, k < ops.size → OkE (st k) → OkE (rs k) ∧ Ext (zr (st k)) (rs k) ∧ OkE (st (k + 1)) := by
    intro k hk hok
    obtain ⟨o, ho⟩ := hop k hk
    obtain ⟨g1, g2, _⟩ := one_ok hC (h.one k o ho) (show OkE (zr (st k)) from hok)
    obtain ⟨e1, e2, _⟩ := put_same (h.put k o ho)
    exact ⟨g1, g2, fun b x hx => by rw [e1] at hx; rw [e2]; exact g1 b x hx⟩
  have hok : ∀ k, k ≤ ops.size → OkE (st k) := by
    intro k
    induction k with
    | zero => intro _; exact h0
    | succ k ih => intro hk; exact (step k (by omega) (ih (by omega))).2.2
  refine ⟨hok, fun k hk => (step k hk (hok k (by omega))).1, fun k hk => (step k hk (hok k (by omega))).2.1, ?_, ?_, ?_⟩
  · intro k hk
    obtain ⟨o, ho⟩ := hop k hk
    obtain ⟨e1, e2, e3, e4, e5, e6⟩ := put_same (h.put k o ho)
    have hx := (step k hk (hok k (by omega))).2.1
    exact ⟨e1, e2, e4, e3, e5.trans hx.t.2, e6.trans hx.g⟩
  · intro k o ho t
    have hk : k < ops.size := (Array.getElem?_eq_some_iff.1 ho).1
    have hx := (step k hk (hok k (by omega))).2.1
    rw [put_get (h.put k o ho)]
    have : (mg (st k) (rs k)).T = (st k).T := hx.t.1
    rw [this]
  · intro k o t ho hd
    have hk : k < ops.size := (Array.getElem?_eq_some_iff.1 ho).1
    have hx := (step k hk (hok k (by omega))).2.1
    rcases put_inv (h.put k o ho) with ⟨e2, _⟩ | ⟨t', e2, hlt, _⟩
    · rw [hd] at e2; cases e2
    · rw [hd] at e2; injection e2 with e2
      have : (mg (st k) (rs k)).nt = (st k).nt := hx.t.2
      rw [e2, ← this]; exact hlt

section
variable (cn : Canon X C ops st rs vs)
include cn
theorem Canon.c_le {i k : Nat} (h : i ≤ k) (hk : k ≤ ops.size) : (st i).c ≤ (st k).c := by
  induction k with
  | zero => obtain rfl : i = 0 := by omega
            exact Nat.le_refl _
  | succ k ih =>
    by_cases he : i = k + 1
    · subst he; exact Nat.le_refl _
    · have h1 := ih (by omega) (by omega)
      have h2 : (st k).c ≤ (rs k).c := (cn.ext k (by omega)).c
      rw [(cn.H k (by omega)).2.1]
      omega
theorem Canon.w_le {i k : Nat} (h : i ≤ k) (hk : k ≤ ops.size) (b : Nat) : ((st i).w.testBit b = true → (st k).w.testBit b = true) ∧ ((st i).r.testBit b = true → (st k).r.testBit b = true) := by
  induction k with
  | zero => obtain rfl : i = 0 := by omega
            exact ⟨id, id⟩
  | succ k ih =>
    by_cases he : i = k + 1
    · subst he; exact ⟨id, id⟩
    · have h1 := ih (by omega) (by omega)
      obtain ⟨_, _, e3, e4, _⟩ := cn.H k (by omega)
      rw [e3, e4, lor_bit, lor_bit]
      exact ⟨fun h => by rw [h1.1 h]; rfl, fun h => by rw [h1.2 h]; rfl⟩
theorem Canon.rs_le {i k : Nat} (h : i < k) (hk : k ≤ ops.size) (b : Nat) : ((rs i).w.testBit b = true → (st k).w.testBit b = true) ∧ ((rs i).r.testBit b = true → (st k).r.testBit b = true) := by
  have h1 := cn.w_le (i := i + 1) (k := k) (by omega) hk b
  obtain ⟨_, _, e3, e4, _⟩ := cn.H i (by omega)
  exact ⟨fun h => h1.1 (by rw [e3, lor_bit, h]; simp), fun h => h1.2 (by rw [e4, lor_bit, h]; simp)⟩
theorem Canon.none {i k b : Nat} (h : i ≤ k) (hk : k ≤ ops.size) (hb : b < (st i).c) (hn : (st i).H.get b = none) : (st k).H.get b = none := by
  induction k with
  | zero => obtain rfl : i = 0 := by omega
            exact hn
  | succ k ih =>
    by_cases he : i = k + 1
    · subst he; exact hn
    · have h1 := ih (by omega) (by omega)
      rw [(cn.H k (by omega)).1]
      refine (cn.ext k (by omega)).n b ?_ h1
      have := cn.c_le (i := i) (k := k) (by omega) (by omega)
      exact Nat.lt_of_lt_of_le hb this
theorem Canon.keep1 {k b : Nat} (hk : k < ops.size) (hw : ¬ Wn st rs k b) : (st (k + 1)).H.get b = (st k).H.get b := by
  have hx := cn.ext k hk
  rw [wn_iff hx.c] at hw
  rw [(cn.H k hk).1]
  by_cases hb : b < (st k).c
  · exact hx.h b hb (by
      rcases e : (rs k).w.testBit b with _ | _
      · rfl
      · exact absurd (.inl e) hw)
  · have hb2 : ¬ b < (rs k).c := fun e => hw (.inr ⟨by omega, e⟩)
    cases h1 : (rs k).H.get b with
    | some x => exact absurd (cn.okr k hk b x h1) hb2
    | none =>
      cases h2 : (st k).H.get b with
      | some x => exact absurd (cn.ok k (by omega) b x h2) hb
      | none => rfl
theorem Canon.keep {i k b : Nat} (h : i ≤ k) (hk : k ≤ ops.size) (hw : ∀ j, i ≤ j → j < k → ¬ Wn st rs j b) : (st k).H.get b = (st i).H.get b := by
  induction k with
  | zero => obtain rfl : i = 0 := by omega
            rfl
  | succ k ih =>
    by_cases he : i = k + 1
    · subst he; rfl
    · rw [cn.keep1 (by omega) (hw k (by omega) (by omega)), ih (by omega) (by omega) (fun j h1 h2 => hw j h1 (by omega))]
theorem Canon.keepT {i k t : Nat} (h : i ≤ k) (hk : k ≤ ops.size) (hw : ∀ j o, i ≤ j → j < k → ops[j]? = some o → o.dst ≠ some t) : (st k).T.get t = (st i).T.get t := by
  induction k with
  | zero => obtain rfl : i = 0 := by omega
            rfl
  | succ k ih =>
    by_cases he : i = k + 1
    · subst he; rfl
    · have ho : ops[k]? = some ops[k] := Array.getElem?_eq_getElem (by omega)
      rw [cn.T k _ ho, if_neg (hw k _ (by omega) (by omega) ho), ih (by omega) (by omega) (fun j o h1 h2 => hw j o h1 (by omega))]
theorem Canon.nt {k : Nat} (hk : k ≤ ops.size) : (st k).nt = (st 0).nt ∧ (st k).ng = (st 0).ng := by
  induction k with
  | zero => exact ⟨rfl, rfl⟩
  | succ k ih =>
    obtain ⟨_, _, _, _, e5, e6⟩ := cn.H k (by omega)
    exact ⟨e5.trans (ih (by omega)).1, e6.trans (ih (by omega)).2⟩
end
end
end Go.Proofs.YtndpcphmndfajaaGreatDoor

namespace Go.Proofs.YtndpcphmndfajaaGreatDoor
open Go.RowKit
set_option linter.unusedVariables false
set_option linter.unusedSimpArgs false

section
variable {X : Cx} {C : CallF} {ops : Array Oper} {st rs : Nat → St} {vs : Nat → SV}

def Ld (listed : Array Bool) (j : Nat) : Prop := listed.getD j false = true
/-- What has come up has its forerunners behind it. -/
structure Cl (ops : Array Oper) (listed : Array Bool) : Prop where
  sz : listed.size = ops.size
  cl : ∀ j o, ops[j]? = some o → Ld listed j → ∀ e ∈ o.after.toList, Region.binds .any e = true → Ld listed e.on
theorem ld_lt {listed : Array Bool} {j : Nat} (h : Ld listed j) : j < listed.size := by
  unfold Ld at h
  rcases Nat.lt_or_ge j listed.size with h' | h'
  · exact h'
  · rw [Array.getD_eq_getD_getElem?, Array.getElem?_eq_none h'] at h; cases h

theorem reg_edges (hreg : regOk ops 0 ops.toList (befs ops.toList []) = true) {j : Nat} {o : Oper} (ho : ops[j]? = some o) : edgesOk o.after.toList j = true := by
  have := (regOk_spec hreg j o (by simpa using ho)).1
  simpa using this
theorem ord_closed (hreg : regOk ops 0 ops.toList (befs ops.toList []) = true) {listed : Array Bool} (hcl : Cl ops listed) : ∀ j i, Ld listed j → Ord ops i j → Ld listed i := by
  intro j
  induction j using Nat.strongRecOn with
  | _ j ih =>
    intro i hj hi
    have hlt := ld_lt hj
    rw [hcl.sz] at hlt
    have ho : ops[j]? = some ops[j] := Array.getElem?_eq_getElem hlt
    obtain ⟨e, he, hb, hlt2, h⟩ := ord_edge ho hi (reg_edges hreg ho)
    have hd := hcl.cl j _ ho hj e he hb
    rcases h with rfl | h
    · exact hd
    · exact ih e.on hlt2 i hd h
theorem ord_ready (hreg : regOk ops 0 ops.toList (befs ops.toList []) = true) {listed : Array Bool} (hcl : Cl ops listed) {i j : Nat} (hi : i ∈ Region.ready .any ops listed) (h : Ord ops j i) : Ld listed j := by
  obtain ⟨_, o, ho, hall⟩ := mem_ready.1 hi
  obtain ⟨e, he, hb, hlt, h⟩ := ord_edge ho h (reg_edges hreg ho)
  have hd : Ld listed e.on := hall e (by simpa using he) hb
  rcases h with rfl | h
  · exact hd
  · exact ord_closed hreg hcl _ _ hd h
theorem ready_lt {listed : Array Bool} {i : Nat} (hi : i ∈ Region.ready .any ops listed) : i < ops.size ∧ ¬ Ld listed i ∧ i < listed.size := by
  obtain ⟨h0, o, ho, _⟩ := mem_ready.1 hi
  have hl : i < listed.size := by
    rcases Nat.lt_or_ge i listed.size with h' | h'
    · exact h'
    · rw [Array.getD_eq_getD_getElem?, Array.getElem?_eq_none h'] at h0; cases h0
  refine ⟨(Array.getElem?_eq_some_iff.1 ho).1, fun h => ?_, hl⟩
  unfold Ld at h
  simp [hl] at h h0
  rw [h0] at h; cases h

theorem ord_mem (run : RunE X C ops ops.size st rs vs) {i j b : Nat} (hi : i < ops.size) (hj : j < ops.size) (h : (Wn st rs j b ∧ Rn st rs i b) ∨ (Wn st rs i b ∧ Rn st rs j b)) : (i < j → Ord ops i j) ∧ (j < i → Ord ops j i) := by
  constructor
  · intro hlt
    rcases run.mem i j _ (Array.getElem?_eq_getElem hj) hlt with h1 | ⟨h1, h2⟩
    · exact h1
    · rcases h with ⟨a, c⟩ | ⟨a, c⟩
      · exact (land_zero h2 b a c).elim
      · exact (land_zero h1 b a c).elim
  · intro hlt
    rcases run.mem j i _ (Array.getElem?_eq_getElem hi) hlt with h1 | ⟨h1, h2⟩
    · exact h1
    · rcases h with ⟨a, c⟩ | ⟨a, c⟩
      · exact (land_zero h1 b a c).elim
      · exact (land_zero h2 b a c).elim
theorem ord_ww (cn : Canon X C ops st rs vs) (run : RunE X C ops ops.size st rs vs) {i j b : Nat} (hi : i < ops.size) (hj : j < ops.size) (hij : i ≠ j) (h1 : Wn st rs i b) (h2 : Wn st rs j b) : (i < j → Ord ops i j) ∧ (j < i → Ord ops j i) := by
  have ci := (cn.ext i hi).c
  have cj := (cn.ext j hj).c
  have h1' := h1
  have h2' := h2
  rw [wn_iff ci] at h1
  rw [wn_iff cj] at h2
  rcases h1 with h1 | h1
  · exact ord_mem run hi hj (.inl ⟨h2', rn_iff.2 (.inr h1)⟩)
  · rcases h2 with h2 | h2
    · exact ord_mem run hi hj (.inr ⟨h1', rn_iff.2 (.inr h2)⟩)
    · exfalso
      rcases Nat.lt_or_gt_of_ne hij with hlt | hlt
      · have := cn.c_le (i := i + 1) (k := j) (by omega) (by omega)
        rw [(cn.H i hi).2.1] at this
        omega
      · have := cn.c_le (i := j + 1) (k := i) (by omega) (by omega)
        rw [(cn.H j hj).2.1] at this
        omega
theorem ord_apart (hreg : regOk ops 0 ops.toList (befs ops.toList []) = true) {i j : Nat} {oi oj : Oper} (hi : ops[i]? = some oi) (hj : ops[j]? = some oj) {t : Tmp} (hd : oj.dst = some t) (h : t ∈ oi.looksAt ops ∨ oi.dst = some t) :
    (i < j → Ord ops i j) ∧ (j < i → Ord ops j i) := by
  constructor
  · intro hlt
    have := (regOk_spec hreg i oi (by simpa using hi)).2 j oj hlt (by simpa using hj)
    simp only [Nat.zero_add] at this
    rcases this with h1 | h1
    · exact h1
    · obtain ⟨a1, a2, a3⟩ := Oper.apart_spec h1
      rcases h with h | h
      · exact (a3 t hd h).elim
      · exact (a2 t h hd).elim
  · intro hlt
    have := (regOk_spec hreg j oj (by simpa using hj)).2 i oi hlt (by simpa using hi)
    simp only [Nat.zero_add] at this
    rcases this with h1 | h1
    · exact h1
    · obtain ⟨a1, a2, a3⟩ := Oper.apart_spec h1
      rcases h with h | h
      · exact (a1 t hd h).elim
      · exact (a2 t hd h).elim
/-- At an operation that may come up: what touches it has come up just if it stands before it. -/
theorem hist (hreg : regOk ops 0 ops.toList (befs ops.toList []) = true) {listed : Array Bool} (hcl : Cl ops listed) {i j : Nat} (hi : i ∈ Region.ready .any ops listed) (h : i ≠ j → (i < j → Ord ops i j) ∧ (j < i → Ord ops j i)) : Ld listed j ↔ j < i := by
  obtain ⟨_, hni, _⟩ := ready_lt hi
  by_cases hij : i = j
  · subst hij
    exact ⟨fun h => (hni h).elim, fun h => (Nat.lt_irrefl _ h).elim⟩
  · obtain ⟨h1, h2⟩ := h hij
    rcases Nat.lt_or_gt_of_ne hij with hlt | hlt
    · exact ⟨fun hd => (hni (ord_closed hreg hcl _ _ hd (h1 hlt))).elim, fun h => by omega⟩
    · exact ⟨fun _ => hlt, fun _ => ord_ready hreg hcl hi (h2 hlt)⟩

/-- What holds once the listed operations have come up. -/
structure Iv (X : Cx) (ops : Array Oper) (st rs : Nat → St) (F : Nat → Prop) (ρ0 : Ren) (w0 : World) (listed : Array Bool) (ρ : Ren) (a : Act) (w : World) : Prop where
  cl : Cl ops listed
  sz : a.tmps.size = (st 0).nt
  df : a.defers = []
  stp : Stp (st ops.size).w (st 0).c (st ops.size).c (st ops.size).H ρ0 ρ w0 w
  nr : ∀ b n, ρ.r b n → ¬ρ.d b → ρ0.r b n ∨ ∃ j, j < ops.size ∧ Ld listed j ∧ (st j).c ≤ b ∧ b < (rs j).c
  nd : ∀ b, ρ.d b → ρ0.d b ∨ ∃ j, j < ops.size ∧ Ld listed j ∧ (rs j).w.testBit b = true ∧ (rs j).H.get b = none ∧ b < (rs j).c
  nq : ∀ b n, ρ.q b n → ρ0.q b n ∨ ∃ j, j < ops.size ∧ Ld listed j ∧ (st j).c ≤ b ∧ b < (rs j).c
  tm : ∀ t v k, k ≤ ops.size → (st k).T.get t = some v → (∀ j o, ops[j]? = some o → o.dst = some t → (Ld listed j ↔ j < k)) → VR ρ v (a.tmps.getD t undef)
  hp : ∀ b x k, k ≤ ops.size → (st k).H.get b = some x → (b < (st 0).c → F b) → (∀ j, j < ops.size → Wn st rs j b → (Ld listed j ↔ j < k)) → ∃ m o, ρ.r b m ∧ w.heap[m]? = some o ∧ BR ρ x o
  cp : ∀ b m l e k q z, k ≤ ops.size → (st k).H.get b = some (.cells l e) → (b < (st 0).c → F b) → (∀ j, j < ops.size → Wn st rs j b → (Ld listed j ↔ j < k)) → ρ.r b m → ρ.q b q → sizeT X.E.P e = some z → ∃ c e' fz, w.heap[m]? = some (.cells c e' fz) ∧ q * z ≤ c.size
  fn : ∀ b n m, ¬ρ.d b → ρ.r b n → ρ.r b m → n = m
  ij : ∀ b c n, ¬ρ.d b → ¬ρ.d c → ρ.r b n → ρ.r c n → b = c
  rg : ∀ b n, ¬ρ.d b → ρ.r b n → n < w.heap.size
  lo : ∀ b n, ¬ρ.d b → ρ.r b n → X.E.ng ≤ b → X.w0.heap.size ≤ n
  gl : ∀ g, g < X.E.ng → ρ.r g g ∧ ¬ρ.d g
  bl : Below X.w0.heap.size X.w0 w

variable {F : Nat → Prop} {ρ0 : Ren} {w0 : World} {listed : Array Bool} {ρ : Ren} {a : Act} {w : World}

/-- A block that is named at its time is not given up. -/
theorem Iv.live (iv : Iv X ops st rs F ρ0 w0 listed ρ a w) (cn : Canon X C ops st rs vs) (hf0 : Frsh ρ0 (st 0).c (st ops.size).c) (hm0 : MR X F ρ0 (st 0).H w0) {b k : Nat} {x : LB} (hk : k ≤ ops.size) (hx : (st k).H.get b = some x) (hF : b < (st 0).c → F b)
    (hh : ∀ j, j < ops.size → Wn st rs j b → (Ld listed j ↔ j < k)) : ¬ρ.d b := by
  intro hd
  rcases iv.nd b hd with h1 | ⟨j, hj, hD, hw, hn, hlt⟩
  · have hbk := cn.ok k hk b x hx
    have hck := cn.c_le (i := k) (k := ops.size) hk (Nat.le_refl _)
    by_cases hb : b < (st 0).c
    · have := cn.none (i := 0) (k := k) (Nat.zero_le _) hk hb (hm0.dd b (hF hb) h1)
      rw [hx] at this; cases this
    · exact (hf0 b (by omega) (by omega)).1 h1
  · have hW : Wn st rs j b := (wn_iff (cn.ext j hj).c).2 (.inl hw)
    have hjk := (hh j hj hW).1 hD
    have := cn.none (i := j + 1) (k := k) (by omega) hk (by rw [(cn.H j hj).2.1]; exact hlt) (by rw [(cn.H j hj).1]; exact hn)
    rw [hx] at this; cases this

/-- The memory that an operation sees. -/
theorem Iv.mr (iv : Iv X ops st rs F ρ0 w0 listed ρ a w) (cn : Canon X C ops st rs vs) (run : RunE X C ops ops.size st rs vs) (hreg : regOk ops 0 ops.toList (befs ops.toList []) = true)
    (hf0 : Frsh ρ0 (st 0).c (st ops.size).c) (hm0 : MR X F ρ0 (st 0).H w0) (hw : Wth F (st 0) (st ops.size)) {i : Nat} (hi : i ∈ Region.ready .any ops listed) : MR X (fun b => Rn st rs i b) ρ (st i).H w := by
  obtain ⟨hin, hni, _⟩ := ready_lt hi
  have hF : ∀ b, Rn st rs i b → b < (st 0).c → F b := fun b hb hlt => by
    rw [rn_iff] at hb
    exact hw b hlt (hb.imp (cn.rs_le hin (Nat.le_refl _) b).2 (cn.rs_le hin (Nat.le_refl _) b).1)
  have hh : ∀ b, Rn st rs i b → ∀ j, j < ops.size → Wn st rs j b → (Ld listed j ↔ j < i) := fun b hb j hj hW =>
    hist hreg iv.cl hi fun _ => ord_mem run hin hj (.inl ⟨hW, hb⟩)
  refine ⟨fun b x hb hx => iv.hp b x i (by omega) hx (hF b hb) (hh b hb), fun b hb hd => ?_, iv.fn, iv.ij, iv.rg, iv.lo, iv.gl, fun b n l e k z hb hg => iv.cp b n l e i k z (by omega) hg (hF b hb) (hh b hb), iv.bl⟩
  cases hx : (st i).H.get b with
  | none => rfl
  | some x => exact (iv.live cn hf0 hm0 (by omega) hx (hF b hb) (hh b hb) hd).elim
theorem Iv.frsh (iv : Iv X ops st rs F ρ0 w0 listed ρ a w) (cn : Canon X C ops st rs vs) (run : RunE X C ops ops.size st rs vs) (hreg : regOk ops 0 ops.toList (befs ops.toList []) = true)
    (hf0 : Frsh ρ0 (st 0).c (st ops.size).c) {i : Nat} (hi : i ∈ Region.ready .any ops listed) : Frsh ρ (st i).c (rs i).c := by
  obtain ⟨hin, hni, _⟩ := ready_lt hi
  have c0 := cn.c_le (i := 0) (k := i) (Nat.zero_le _) (by omega)
  have c1 := cn.c_le (i := i + 1) (k := ops.size) (by omega) (Nat.le_refl _)
  rw [(cn.H i hin).2.1] at c1
  intro b h1 h2
  have hno : ∀ j, j < ops.size → Ld listed j → (st j).c ≤ b → b < (rs j).c → False := fun j hj hD h3 h4 => by
    have hij : i ≠ j := fun e => hni (e ▸ hD)
    rcases Nat.lt_or_gt_of_ne hij with hlt | hlt
    · have := cn.c_le (i := i + 1) (k := j) (by omega) (by omega)
      rw [(cn.H i hin).2.1] at this
      omega
    · have := cn.c_le (i := j + 1) (k := i) (by omega) (by omega)
      rw [(cn.H j hj).2.1] at this
      omega
  have hd : ¬ρ.d b := fun hd => by
    rcases iv.nd b hd with h3 | ⟨j, hj, hD, hw, hn, hlt⟩
    · exact (hf0 b (by omega) (by omega)).1 h3
    · have hij : i ≠ j := fun e => hni (e ▸ hD)
      have hWi : Wn st rs i b := (wn_iff (cn.ext i hin).c).2 (.inr ⟨h1, h2⟩)
      have ho := ord_mem run hin hj (.inr ⟨hWi, rn_iff.2 (.inr hw)⟩)
      have := (hist hreg iv.cl hi fun _ => ho).1 hD
      have := cn.c_le (i := j + 1) (k := i) (by omega) (by omega)
      rw [(cn.H j hj).2.1] at this
      omega
  refine ⟨hd, fun n => ⟨fun h => ?_, fun h => ?_⟩⟩
  · rcases iv.nr b n h hd with h3 | ⟨j, hj, hD, h3, h4⟩
    · exact ((hf0 b (by omega) (by omega)).2 n).1 h3
    · exact hno j hj hD h3 h4
  · rcases iv.nq b n h with h3 | ⟨j, hj, hD, h3, h4⟩
    · exact ((hf0 b (by omega) (by omega)).2 n).2 h3
    · exact hno j hj hD h3 h4
theorem Iv.opd (iv : Iv X ops st rs F ρ0 w0 listed ρ a w) (hreg : regOk ops 0 ops.toList (befs ops.toList []) = true) {i : Nat} {o : Oper} (hi : i ∈ Region.ready .any ops listed) (ho : ops[i]? = some o) {t : Tmp} {v : SV} (ht : t ∈ o.looksAt ops) (hv : (st i).T.get t = some v) : VR ρ v (a.tmps.getD t undef) := by
  obtain ⟨hin, hni, _⟩ := ready_lt hi
  exact iv.tm t v i (by omega) hv fun j oj hj hd => hist hreg iv.cl hi fun _ => ord_apart hreg ho hj hd (.inl ht)

theorem ld_set {i j : Nat} (hi : i < listed.size) : Ld (listed.setIfInBounds i true) j ↔ (j = i ∨ Ld listed j) := by
  unfold Ld
  by_cases h : i = j
  · subst h; simp [hi]
  · rw [getD_set_ne false h]
    constructor
    · exact .inr
    · rintro (h2 | h2)
      · exact absurd h2.symm h
      · exact h2

/-- One more operation has come up. -/
theorem Iv.next (iv : Iv X ops st rs F ρ0 w0 listed ρ a w) (cn : Canon X C ops st rs vs) (run : RunE X C ops ops.size st rs vs) (hreg : regOk ops 0 ops.toList (befs ops.toList []) = true)
    (hf0 : Frsh ρ0 (st 0).c (st ops.size).c) (hm0 : MR X F ρ0 (st 0).H w0) (hw : Wth F (st 0) (st ops.size)) {i : Nat} {o : Oper} (hi : i ∈ Region.ready .any ops listed) (ho : ops[i]? = some o) {u : Value} {w' : World} {σ : Ren}
    (hu : VR σ (vs i) u) (hs : Stp (rs i).w (st i).c (rs i).c (rs i).H ρ σ w w') (hm : MR X (FN (fun b => Rn st rs i b) (st i).c (rs i).c) σ (rs i).H w') :
    Iv X ops st rs F ρ0 w0 (listed.setIfInBounds i true) σ (a.put o.dst u) w' := by
  obtain ⟨hin, hni, hil⟩ := ready_lt hi
  have c0 := cn.c_le (i := 0) (k := i) (Nat.zero_le _) (by omega)
  have c1 := cn.c_le (i := i + 1) (k := ops.size) (by omega) (Nat.le_refl _)
  have hHi := cn.H i hin
  rw [hHi.2.1] at c1
  have hset : ∀ j, Ld (listed.setIfInBounds i true) j ↔ (j = i ∨ Ld listed j) := fun j => ld_set hil
  -- no other one that turns what i turns comes up behind it
  have hbetween : ∀ j k, j < ops.size → i < j → j < k → (Ld (listed.setIfInBounds i true) j ↔ j < k) → Ord ops i j → False := fun j k hj h1 h2 h3 h4 => by
    have := (hset j).1 (h3.2 h2)
    rcases this with h5 | h5
    · omega
    · exact hni (ord_closed hreg iv.cl _ _ h5 h4)
  have hlast : ∀ b k, k ≤ ops.size → Wn st rs i b → (∀ j, j < ops.size → Wn st rs j b → (Ld (listed.setIfInBounds i true) j ↔ j < k)) → i < k ∧ (st k).H.get b = (rs i).H.get b := fun b k hk hW hh => by
    have hik : i < k := (hh i hin hW).1 ((hset i).2 (.inl rfl))
    refine ⟨hik, ?_⟩
    rw [cn.keep (i := i + 1) (k := k) (by omega) hk (fun j h1 h2 hWj => hbetween j k (by omega) (by omega) h2 (hh j (by omega) hWj) ((ord_ww cn run hin (by omega) (by omega) hW hWj).1 (by omega))), hHi.1]
  have hother : ∀ b k, ¬ Wn st rs i b → (∀ j, j < ops.size → Wn st rs j b → (Ld (listed.setIfInBounds i true) j ↔ j < k)) → ∀ j, j < ops.size → Wn st rs j b → (Ld listed j ↔ j < k) := fun b k hW hh j hj hWj => by
    rw [← hh j hj hWj, hset j]
    exact ⟨.inr, fun h => h.resolve_left fun e => hW (e ▸ hWj)⟩
  have hinF : ∀ b, Wn st rs i b → FN (fun b => Rn st rs i b) (st i).c (rs i).c b := fun b hW => by
    rcases (wn_iff (cn.ext i hin).c).1 hW with h1 | h1
    · exact .inl (rn_iff.2 (.inr h1))
    · exact .inr h1
  have hun : ∀ b x k m, k ≤ ops.size → (st k).H.get b = some x → (b < (st 0).c → F b) → (∀ j, j < ops.size → Wn st rs j b → (Ld listed j ↔ j < k)) → ¬ Wn st rs i b → ρ.r b m → m < w.heap.size → w'.heap[m]? = w.heap[m]? := fun b x k m hk hx hF hh hW hr hlt => by
    have hlive := iv.live cn hf0 hm0 hk hx hF hh
    refine hs.un m hlt fun q hq hqd hqr => hW ?_
    have : q = b := iv.ij q b m hqd hlive hqr hr
    exact (wn_iff (cn.ext i hin).c).2 (.inl (this ▸ hq))
  have hlt' : ∀ t', o.dst = some t' → t' < a.tmps.size := fun t' e => by
    rw [iv.sz, ← (cn.nt (k := i) (by omega)).1]
    exact cn.lt i o t' ho e
  refine ⟨⟨by rw [Array.size_setIfInBounds]; exact iv.cl.sz, fun j oj hj hD e he hb => ?_⟩, by rw [size_put]; exact iv.sz, by rw [defers_put]; exact iv.df, ?_, ?_, ?_, ?_, ?_, ?_, ?_, hm.fn, hm.ij, hm.rg, hm.lo, hm.gl, hm.bl⟩
  · rcases (hset j).1 hD with rfl | hD
    · obtain ⟨_, o', ho', hall⟩ := mem_ready.1 hi
      rw [hj] at ho'
      injection ho' with ho'
      subst ho'
      exact (hset _).2 (.inr (hall e (by simpa using he) hb))
    · exact (hset _).2 (.inr (iv.cl.cl j oj hj hD e he hb))
  · refine iv.stp.join (hs.weak (fun b hb => (cn.rs_le hin (Nat.le_refl _) b).1 hb) c0 c1 (fun b hb hn => ?_))
    exact cn.none (i := i + 1) (k := ops.size) (by omega) (Nat.le_refl _) (by rw [hHi.2.1]; exact hb) (by rw [hHi.1]; exact hn)
  · intro b n hr hd
    rcases hs.nr b n hr hd with h1 | ⟨h1, h2, _⟩
    · rcases iv.nr b n h1 (fun e => hd (hs.le.d _ e)) with h3 | ⟨j, hj, hD, h3⟩
      · exact .inl h3
      · exact .inr ⟨j, hj, (hset j).2 (.inr hD), h3⟩
    · exact .inr ⟨i, hin, (hset i).2 (.inl rfl), h1, h2⟩
  · intro b hd
    rcases hs.nd b hd with h1 | ⟨h1, h2, h3⟩
    · rcases iv.nd b h1 with h4 | ⟨j, hj, hD, h4⟩
      · exact .inl h4
      · exact .inr ⟨j, hj, (hset j).2 (.inr hD), h4⟩
    · exact .inr ⟨i, hin, (hset i).2 (.inl rfl), h2, h3, h1⟩
  · intro b n hr
    rcases hs.nq b n hr with h1 | ⟨h1, h2⟩
    · rcases iv.nq b n h1 with h3 | ⟨j, hj, hD, h3⟩
      · exact .inl h3
      · exact .inr ⟨j, hj, (hset j).2 (.inr hD), h3⟩
    · exact .inr ⟨i, hin, (hset i).2 (.inl rfl), h1, h2⟩
  · intro t v k hk hv hh
    rw [getD_put t hlt']
    by_cases hd : o.dst = some t
    · rw [if_pos hd]
      have hik : i < k := (hh i o ho hd).1 ((hset i).2 (.inl rfl))
      have : (st k).T.get t = some (vs i) := by
        rw [cn.keepT (i := i + 1) (k := k) (by omega) hk (fun j oj h1 h2 hj hdj => hbetween j k (by omega) (by omega) h2 (hh j oj hj hdj) ((ord_apart hreg ho hj hdj (.inr hd)).1 (by omega))), cn.T i o ho, if_pos hd]
      rw [this] at hv
      injection hv with hv
      subst hv
      exact hu
    · rw [if_neg hd]
      refine (iv.tm t v k hk hv fun j oj hj hdj => ?_).mono hs.le
      rw [← hh j oj hj hdj, hset j]
      refine ⟨.inr, fun h => h.resolve_left fun e => ?_⟩
      subst e
      rw [ho] at hj
      injection hj with hj
      subst hj
      exact hd hdj
  · intro b x k hk hx hF hh
    by_cases hW : Wn st rs i b
    · obtain ⟨_, he⟩ := hlast b k hk hW hh
      rw [he] at hx
      obtain ⟨m, ob, h1, h2, h3⟩ := hm.hp b x (hinF b hW) hx
      exact ⟨m, ob, h1, h2, h3⟩
    · have hh' := hother b k hW hh
      obtain ⟨m, ob, h1, h2, h3⟩ := iv.hp b x k hk hx hF hh'
      refine ⟨m, ob, hs.le.r _ _ h1, ?_, h3.mono hs.le⟩
      rw [hun b x k m hk hx hF hh' hW h1 (Array.getElem?_eq_some_iff.1 h2).1]
      exact h2
  · intro b m l e k q z hk hx hF hh hr hq hz
    by_cases hW : Wn st rs i b
    · obtain ⟨_, he⟩ := hlast b k hk hW hh
      rw [he] at hx
      exact hm.cp b m l e q z (hinF b hW) hx hr hq hz
    · have hh' := hother b k hW hh
      obtain ⟨m', ob, h1, h2, h3⟩ := iv.hp b _ k hk hx hF hh'
      have hnd : ¬ (st i).c ≤ b ∨ ¬ b < (rs i).c := by
        by_cases hb1 : (st i).c ≤ b
        · exact .inr fun hb2 => hW ((wn_iff (cn.ext i hin).c).2 (.inr ⟨hb1, hb2⟩))
        · exact .inl hb1
      have hlive := iv.live cn hf0 hm0 hk hx hF hh'
      have hσd : ¬σ.d b := fun e => by
        rcases hs.nd b e with h4 | ⟨h4, h5, h6⟩
        · exact hlive h4
        · exact hW ((wn_iff (cn.ext i hin).c).2 (.inl h5))
      have hr' : ρ.r b m := by
        rcases hs.nr b m hr hσd with h4 | ⟨h4, h5, _⟩
        · exact h4
        · rcases hnd with h6 | h6
          · exact absurd h4 h6
          · exact absurd h5 h6
      have hq' : ρ.q b q := by
        rcases hs.nq b q hq with h4 | ⟨h4, h5⟩
        · exact h4
        · rcases hnd with h6 | h6
          · exact absurd h4 h6
          · exact absurd h5 h6
      obtain ⟨c, e', fz, h7, h8⟩ := iv.cp b m l e k q z hk hx hF hh' hr' hq' hz
      refine ⟨c, e', fz, ?_, h8⟩
      rw [hun b _ k m hk hx hF hh' hW hr' (Array.getElem?_eq_some_iff.1 h7).1]
      exact h7
end
end Go.Proofs.YtndpcphmndfajaaGreatDoor
