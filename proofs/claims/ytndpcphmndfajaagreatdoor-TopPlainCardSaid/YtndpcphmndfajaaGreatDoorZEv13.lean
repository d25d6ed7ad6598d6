/- The evaluator: each operation. | The evaluator: each operation is the model's. | The evaluator: all operations. | The evaluator: regions whose order is laid down. -/
import Derived.Test.YtndpcphmndfajaaGreatDoorZEv11

namespace Go.Proofs.YtndpcphmndfajaaGreatDoor
open Go.RowKit
set_option linter.unusedVariables false
set_option linter.unusedSimpArgs false

section
variable {X : Cx} {P : Program} {w : World} {ρ : Ren}

/-! ### Copies -/
theorem srcCells_ok {z n : Nat} {S S1 : St} {x : SV} {l : List SV} (h : srcCells S z x = some (n, l, S1)) :
    (S1 = S ∨ ∃ b c, S1 = S.saw b ∧ S.H.get b = some c) ∧ l.length = n * z ∧
    ∀ (F : Nat → Prop) (ρ : Ren) (w : World) (u : Value), (∀ b c, S1 = S.saw b → S.H.get b = some c → F b) → MR X F ρ S.H w → VR ρ x u →
      (Builtin.lenOf u).run X.E.P w = .ok n w ∧ ∀ k, k ≤ n → ∃ us, VRs ρ (l.take (k * z)) us ∧ (Builtin.firstCells z k u).run X.E.P w = .ok us.toArray w := by
  unfold srcCells at h
  split at h
  · rename_i l
    split at h
    · rename_i hz1
      have hz1 := Nat.eq_of_beq_eq_true hz1
      subst hz1
      simp only [Option.some.injEq, Prod.mk.injEq] at h
      obtain ⟨rfl, rfl, rfl⟩ := h
      refine ⟨.inl rfl, by simp [toCells], fun F ρ w u _ hm hu => ?_⟩
      simp only [VR] at hu
      obtain ⟨rfl, hl⟩ := hu
      refine ⟨by simp [Builtin.lenOf, bs_size], fun k hk => ⟨(l.take k).map fun n => .int .u8 (Int.ofNat n), ?_, ?_⟩⟩
      · have := toCells_vr (ρ := ρ) (l.take k)
        simpa [toCells, List.map_take] using this
      · have e1 : (bs l).extract 0 k = bs (l.take k) := by rw [bs_extract]; simp
        simp only [Builtin.firstCells, e1, Sem.run_pure]
        rw [bs_cells (fun x hx => hl x (List.mem_of_mem_take hx))]
    · cases h
  · simp only [Option.some.injEq, Prod.mk.injEq] at h
    obtain ⟨rfl, rfl, rfl⟩ := h
    refine ⟨.inl rfl, by simp, fun F ρ w u _ hm hu => ?_⟩
    simp only [VR] at hu
    subst hu
    exact ⟨by simp [Builtin.lenOf], fun k hk => ⟨[], by simp [vrs_nil], by simp [Builtin.firstCells]⟩⟩
  · simp only [Option.some.injEq, Prod.mk.injEq] at h
    obtain ⟨rfl, rfl, rfl⟩ := h
    refine ⟨.inl rfl, by simp, fun F ρ w u _ hm hu => ?_⟩
    simp only [VR] at hu
    obtain ⟨a, k, _, rfl⟩ := hu
    refine ⟨by simp [Builtin.lenOf], fun k hk => ⟨[], by simp [vrs_nil], ?_⟩⟩
    obtain rfl : k = 0 := by omega
    simp [Builtin.firstCells, loadCells, loadCellsFrom]
  · rename_i b o m c
    cases hr : rdCells S b o (m * z) with
    | none => rw [hr] at h; cases h
    | some l' =>
      rw [hr] at h
      simp only [Option.some.injEq, Prod.mk.injEq] at h
      obtain ⟨rfl, rfl, rfl⟩ := h
      obtain ⟨cs, e', hb', hk, rfl⟩ := rdCells_inv hr
      refine ⟨.inr ⟨b, _, rfl, hb'⟩, by simp; omega, fun F ρ w u hF hm hu => ?_⟩
      have hFb : F b := hF b _ rfl hb'
      simp only [VR] at hu
      obtain ⟨q, k, hq, _, _, _, rfl⟩ := hu
      obtain ⟨q', ob, h1, h2, h3⟩ := hm.hp b _ hFb hb'
      have hdd : ¬ρ.d b := fun e => by rw [hm.dd b hFb e] at hb'; cases hb'
      obtain rfl := hm.fn b q q' hdd hq h1
      refine ⟨by simp [Builtin.lenOf], fun k hkm => ?_⟩
      have hkz : k * z ≤ m * z := Nat.mul_le_mul_right _ hkm
      obtain ⟨us, h4, h5⟩ := rd_run (P := X.E.P) (o := o) (k := k * z) (by omega) h2 h3
      refine ⟨us, ?_, h4⟩
      rw [List.take_take, Nat.min_eq_left hkz]
      exact h5
  · cases h

theorem evCopy_tri {S S' : St} {t : TypeId} {d x v : SV} (ts : List TypeId) (rt : TypeId) (h : evCopy X.E.P X.E.ng S t d x = some (v, S')) :
    Tri X S S' v (fun ρ q => ∃ du u, VR ρ d du ∧ VR ρ x u ∧ q = Builtin.copy_ (t :: ts).toArray rt #[du, u]) := by
  unfold evCopy at h
  split at h
  · rename_i e z he
    obtain ⟨ht, hz⟩ := elemT_und he
    split at h
    · rename_i b o n c
      cases hs : srcCells S z x with
      | none => rw [hs] at h; cases h
      | some r =>
        obtain ⟨k, l, S1⟩ := r
        rw [hs] at h
        simp only [cpTo] at h
        cases hw : wrCells X.E.ng S1 b o (l.take (minN k n * z)) with
        | none => rw [hw] at h; cases h
        | some S2 =>
          rw [hw] at h
          simp only [cpPut, Option.some.injEq, Prod.mk.injEq] at h
          obtain ⟨rfl, rfl⟩ := h
          obtain ⟨hS1, hlen, hsrc⟩ := srcCells_ok (X := X) hs
          obtain ⟨cs, e2, hb, h1, h2, h3, rfl⟩ := wrCells_inv hw
          intro hok
          have hH : S1.H = S.H := by rcases hS1 with rfl | ⟨b, c, rfl, _⟩ <;> rfl
          have hcc : S1.c = S.c := by rcases hS1 with rfl | ⟨b, c, rfl, _⟩ <;> rfl
          have hext : Ext S S1 := by
            rcases hS1 with rfl | ⟨b, c, rfl, _⟩
            · exact .refl _
            · exact ext_saw _ _
          have hok1 : OkE S1 := fun b x hx => by rw [hH] at hx; rw [hcc]; exact hok b x hx
          have hlt := hok1 b _ hb
          have hext2 := ext_wr S1 b (some (.cells (setAt cs o (l.take (minN k n * z))) e2)) (.inl (by rw [hb]; simp))
          refine ⟨ok_wr hok1 hlt, hext.trans hext2, fun F ρ w q hwth hf hm hq => ?_⟩
          obtain ⟨du, u, hdu, hu, rfl⟩ := hq
          have hFb : F b := hwth b (by omega) (.inr (wr_bit S1 b none))
          obtain ⟨g1, g2⟩ := hsrc F ρ w u (fun b c hb' hg => by
            refine hwth b (hok b c hg) (.inl (hext2.r b ?_))
            rw [hb']
            show (Nat.lor S.r (Nat.shiftLeft 1 b)).testBit b = true
            rw [bit_lor]
            simp) hm hu
          have hmin : minN k n = Nat.min k n := minN_eq k n
          obtain ⟨us, g3, g4⟩ := g2 (minN k n) (by rw [hmin]; exact Nat.min_le_left _ _)
          simp only [VR] at hdu
          obtain ⟨m, kk, hr, _, _, _, rfl⟩ := hdu
          have hm1 : MR X F ρ S1.H w := by rw [hH]; exact hm
          obtain ⟨m', ob, q1, q2, q3⟩ := hm1.hp b _ hFb hb
          have hdd : ¬ρ.d b := fun e => by rw [hm1.dd b hFb e] at hb; cases hb
          obtain rfl := hm1.fn b m m' hdd hr q1
          obtain ⟨o', q4, q5, q6⟩ := wr_run (P := X.E.P) h1 g3 h3 q2 q3
          refine ⟨goInt (minN k n), { w with heap := w.heap.setIfInBounds m o' }, ρ, ?_, by simp only [VR]; rfl, ?_, ?_⟩
          · simp only [Builtin.copy_, List.getElem?_toArray, List.getElem?_cons_zero, List.getElem?_cons_succ, Sem.run_bind, run_und ht, Result.andThen_ok, g1, run_size hz, ← hmin, g4, q4, Sem.run_pure]
          · rw [← hcc]; exact stp_wr (wr_bit S1 b none) hdd hr rfl ⟨rfl, rfl, rfl⟩
          · rw [← hcc]
            exact (mr_wr (w' := { w with heap := w.heap.setIfInBounds m o' }) hm1 hFb hb hr h2 rfl ⟨rfl, rfl, rfl⟩ q5 (by rw [q2]; exact q6)).sub FN.same
    · cases h
  · cases h
end
end Go.Proofs.YtndpcphmndfajaaGreatDoor

namespace Go.Proofs.YtndpcphmndfajaaGreatDoor
open Go.RowKit
set_option linter.unusedVariables false
set_option linter.unusedSimpArgs false

section
variable {X : Cx}

/-- The operands of an operation belong together. -/
def Opds (S : St) (ρ : Ren) (a : Act) (l : List Operand) : Prop := ∀ x ∈ l, ∀ u, S.opd x = some u → VR ρ u (a.eval x)
/-- What is asked of the world behind an operation. -/
def Post (X : Cx) (F : Nat → Prop) (S S' : St) (v : SV) (ρ : Ren) (w : World) (k : Value → World → Prop) : Prop :=
  ∀ u w' σ, VR σ v u → Stp S'.w S.c S'.c S'.H ρ σ w w' → MR X (FN F S.c S'.c) σ S'.H w' → k u w'
def OpSim (X : Cx) (S S' : St) (v : SV) (o : Oper) : Prop :=
  OkE S → OkE S' ∧ Ext S S' ∧ ∀ F ρ w a, Wth F S S' → Frsh ρ S.c S'.c → MR X F ρ S.H w → Opds S ρ a o.op.operands.toList → ∀ (K : Act → World → Prop) (Q : Exit → Act → World → Prop),
    Post X F S S' v ρ w (fun u w' => K (a.put o.dst u) w') → o.wp X.E.P a w K Q
def CallSim (X : Cx) (f : FuncId) (args : List SV) (S S' : St) (v : SV) : Prop :=
  OkE S → OkE S' ∧ Ext S S' ∧ ∀ F ρ w us, Wth F S S' → Frsh ρ S.c S'.c → MR X F ρ S.H w → VRs ρ args us → ∀ (o : Oper) (a : Act) (K : Act → World → Prop) (Q : Exit → Act → World → Prop),
    Post X F S S' v ρ w (fun u w' => K (a.put o.dst u) w') → o.upon X.E.P a K Q ((callFunc f us.toArray).run X.E.P w)
def CallsSim (X : Cx) (C : CallF) : Prop := ∀ f args S v S', C f args S = some (v, S') → CallSim X f args S S' v

theorem opsim_value {S S' : St} {v : SV} {o : Oper} {A : Ren → Sem Value → Prop} (h : Tri X S S' v A) (hA : ∀ ρ a, Opds S ρ a o.op.operands.toList → ∃ s, A ρ s ∧ execOp a.eval o = (do pure (.value (← s)))) : OpSim X S S' v o := fun hok => by
  obtain ⟨h1, h2, h3⟩ := h hok
  refine ⟨h1, h2, fun F ρ w a hw hf hm hops K Q hp => ?_⟩
  obtain ⟨s, hs, he⟩ := hA ρ a hops
  obtain ⟨u, w', σ, g1, g2, g3, g4⟩ := h3 F ρ w s hw hf hm hs
  unfold Oper.wp
  rw [he]
  simp only [Sem.run_bind, g1, Result.andThen_ok, Sem.run_pure]
  exact hp u w' σ g2 g3 g4
theorem opsim_skip {S S' : St} {o : Oper} {A : Ren → Sem Value → Prop} (h : Tri X S S' .und A) (hA : ∀ ρ a, Opds S ρ a o.op.operands.toList → ∃ s : Sem Unit, A ρ (do s; pure undef) ∧ execOp a.eval o = (do s; pure .skip)) : OpSim X S S' .und o := fun hok => by
  obtain ⟨h1, h2, h3⟩ := h hok
  refine ⟨h1, h2, fun F ρ w a hw hf hm hops K Q hp => ?_⟩
  obtain ⟨s, hs, he⟩ := hA ρ a hops
  obtain ⟨u, w', σ, g1, g2, g3, g4⟩ := h3 F ρ w _ hw hf hm hs
  unfold Oper.wp
  rw [he]
  simp only [Sem.run_bind] at g1 ⊢
  cases hr : s.run X.E.P w with
  | halt x w2 => rw [hr] at g1; cases g1
  | ok _ w2 =>
    rw [hr] at g1
    simp only [Result.andThen_ok, Sem.run_pure, Result.ok.injEq] at g1 ⊢
    obtain ⟨rfl, rfl⟩ := g1
    exact hp _ _ σ g2 g3 g4

theorem opds_all {S : St} {ρ : Ren} {a : Act} : ∀ {l : List Operand} {vs : List SV}, S.opds l = some vs → Opds S ρ a l → VRs ρ vs (l.map a.eval)
  | [], vs, h, _ => by simp only [St.opds, Option.some.injEq] at h; subst h; exact vrs_nil.2 rfl
  | x :: l, vs, h, ho => by
    unfold St.opds at h
    cases hx : S.opd x with
    | none => rw [hx] at h; cases h
    | some v =>
      rw [hx] at h
      cases hl : S.opds l with
      | none => rw [hl] at h; cases h
      | some r =>
        rw [hl] at h
        simp only [Option.some.injEq] at h
        subst h
        exact vrs_cons.2 ⟨ho x (by simp) v hx, opds_all hl fun y hy => ho y (by simp [hy])⟩
theorem opd_opt {S : St} {ρ : Ren} {a : Act} {x : Option Operand} {v : Option SV} (h : S.opd? x = some v) (ho : ∀ y, x = some y → ∀ u, S.opd y = some u → VR ρ u (a.eval y)) : OV ρ v (x.map a.eval) := by
  cases x with
  | none => simp only [St.opd?, Option.some.injEq] at h; subst h; rfl
  | some y =>
    simp only [St.opd?] at h
    cases hy : S.opd y with
    | none => rw [hy] at h; cases h
    | some u =>
      rw [hy] at h
      simp only [Option.some.injEq] at h
      subst h
      exact ⟨_, rfl, ho y rfl u hy⟩
theorem parts_ok {S : St} {ρ : Ren} {a : Act} : ∀ {l : List (Nat × Operand)} {vs : List (Nat × SV)}, evParts S l = some vs → Opds S ρ a (l.map (·.2)) → PV ρ vs (l.map fun (i, x) => (i, a.eval x))
  | [], vs, h, _ => by simp only [evParts, Option.some.injEq] at h; subst h; rfl
  | (i, x) :: l, vs, h, ho => by
    unfold evParts at h
    split at h
    · rename_i v r hx hl
      simp only [Option.some.injEq] at h
      subst h
      exact ⟨_, _, rfl, ho x (by simp) v hx, parts_ok hl fun y hy => ho y (by simp only [List.map_cons, List.mem_cons]; exact .inr hy)⟩
    · cases h

theorem pairS_inv {r : Option SV} {S S' : St} {v : SV} (h : pairS r S = some (v, S')) : r = some v ∧ S' = S := by
  cases r with
  | none => cases h
  | some x => simp only [pairS, Option.some.injEq, Prod.mk.injEq] at h; exact ⟨by rw [h.1], h.2.symm⟩
theorem undS_inv {r : Option St} {S' : St} {v : SV} (h : undS r = some (v, S')) : r = some S' ∧ v = .und := by
  cases r with
  | none => cases h
  | some x => simp only [undS, Option.some.injEq, Prod.mk.injEq] at h; exact ⟨by rw [h.2], h.1.symm⟩

/-- An operation that leaves memory alone. -/
theorem opsim_pure {S : St} {v : SV} {o : Oper} (h : ∀ ρ w a, Opds S ρ a o.op.operands.toList → ∃ s : Sem Value, execOp a.eval o = (do pure (.value (← s))) ∧ ∃ u, s.run X.E.P w = .ok u w ∧ VR ρ v u) : OpSim X S S v o := fun hok =>
  ⟨hok, .refl _, fun F ρ w a hw hf hm hops K Q hp => by
    obtain ⟨s, he, u, h1, h2⟩ := h ρ w a hops
    unfold Oper.wp
    rw [he]
    simp only [Sem.run_bind, h1, Result.andThen_ok, Sem.run_pure]
    exact hp u w ρ h2 .refl (hm.sub FN.same)⟩

theorem builtinO_inv {bi : Builtin} {r : Option (List SV)} {ts : List TypeId} {E : Env} {S : St} {q : SV × St} (h : builtinO bi r ts E S = some q) :
    (∃ x t us, bi = .len ∧ r = some [x] ∧ ts = t :: us ∧ evLen E.P S t x = some q) ∨ (∃ x y, bi = .append ∧ r = some [x, y] ∧ evAppend E.P E.ng S ts x y = some q) ∨
    (∃ x y t us, bi = .copy ∧ r = some [x, y] ∧ ts = t :: us ∧ evCopy E.P E.ng S t x y = some q) ∨ (∃ l, bi = .min ∧ r = some l ∧ pairS (evMin false l) S = some q) ∨ (∃ l, bi = .max ∧ r = some l ∧ pairS (evMin true l) S = some q) := by
  unfold builtinO at h
  split at h
  · exact .inl ⟨_, _, _, rfl, rfl, rfl, h⟩
  · exact .inr (.inl ⟨_, _, rfl, rfl, h⟩)
  · exact .inr (.inr (.inl ⟨_, _, _, _, rfl, rfl, rfl, h⟩))
  · exact .inr (.inr (.inr (.inl ⟨_, rfl, rfl, h⟩)))
  · exact .inr (.inr (.inr (.inr ⟨_, rfl, rfl, h⟩)))
  · cases h
theorem callO_inv {g : Option SV} {r : Option (List SV)} {C : CallF} {S : St} {q : SV × St} (h : callO g r C S = some q) : ∃ f x y args, g = some (.f f x y) ∧ r = some args ∧ C f (x ++ (args ++ y)) S = some q := by
  unfold callO at h
  split at h
  · exact ⟨_, _, _, _, rfl, rfl, h⟩
  · cases h
theorem vrs_two {ρ : Ren} {x y : SV} {l : List Value} (h : VRs ρ [x, y] l) : ∃ u u', l = [u, u'] ∧ VR ρ x u ∧ VR ρ y u' := by
  cases l with
  | nil => simp only [VRs] at h; obtain ⟨_, _, e, _⟩ := h; cases e
  | cons u r =>
    have h2 := vrs_cons.1 h
    cases r with
    | nil => have := h2.2; simp only [VRs] at this; obtain ⟨_, _, e, _⟩ := this; cases e
    | cons u' r =>
      have h4 := vrs_cons.1 h2.2
      have h3 := vrs_nil.1 h4.2
      subst h3
      exact ⟨u, u', rfl, h2.1, h4.1⟩
theorem vrs_one {ρ : Ren} {x : SV} {l : List Value} (h : VRs ρ [x] l) : ∃ u, l = [u] ∧ VR ρ x u := by
  cases l with
  | nil => simp only [VRs] at h; obtain ⟨_, _, e, _⟩ := h; cases e
  | cons u r =>
    have h2 := vrs_cons.1 h
    have h3 := vrs_nil.1 h2.2
    subst h3
    exact ⟨u, rfl, h2.1⟩

theorem evCallee_ok {C : CallF} (hC : CallsSim X C) {c : Call} {S S' : St} {v : SV} {o : Oper} (ho : o.op = .call c) (h : evCallee c.callee c X.E C S = some (v, S')) : OpSim X S S' v o := by
  have hex : ∀ a : Act, execOp a.eval o = (do let d ← resolve a.eval c o.type; invoke d.target d.args) := fun a => by unfold execOp; rw [ho]
  have hopr : o.op.operands.toList = c.operands.toList := by rw [ho]; rfl
  cases hc : c.callee with
  | invoke r n => rw [hc] at h; simp [evCallee] at h
  | builtin bi =>
    rw [hc] at h
    simp only [evCallee] at h
    have hops : c.operands = c.args := by simp [Call.operands, hc]
    have hval : ∀ a : Act, (do let d ← resolve a.eval c o.type; invoke d.target d.args) = builtin bi c.argTypes o.type (c.args.map fun | .const _ => true | _ => false) (c.args.map a.eval) := fun a => by
      simp only [resolve, hc]
      rfl
    rcases builtinO_inv h with ⟨x, t, ts, rfl, hx, ht, g⟩ | ⟨x, y, rfl, hx, g⟩ | ⟨x, y, t, ts, rfl, hx, ht, g⟩ | ⟨l, rfl, hx, g⟩ | ⟨l, rfl, hx, g⟩
    · refine opsim_value (evLen_tri ts o.type g) fun ρ a hop => ?_
      rw [hopr, hops] at hop
      obtain ⟨u, hu1, hu2⟩ := vrs_one (opds_all hx hop)
      rw [hex, hval]
      refine ⟨Builtin.len_ (t :: ts).toArray o.type #[u], ⟨u, hu2, rfl⟩, ?_⟩
      have e1 : c.args.map a.eval = #[u] := by apply Array.toList_inj.1; simpa using hu1
      have e2 : c.argTypes = (t :: ts).toArray := by rw [← ht]
      rw [e1, e2]
      rfl
    · refine opsim_value (evAppend_tri g) fun ρ a hop => ?_
      rw [hopr, hops] at hop
      obtain ⟨u, u', hu1, hu2, hu3⟩ := vrs_two (opds_all hx hop)
      rw [hex, hval]
      refine ⟨_, ⟨u, u', o.type, hu2, hu3, rfl⟩, ?_⟩
      have e1 : c.args.map a.eval = #[u, u'] := by apply Array.toList_inj.1; simpa using hu1
      rw [e1, Array.toArray_toList]
      rfl
    · refine opsim_value (evCopy_tri ts o.type g) fun ρ a hop => ?_
      rw [hopr, hops] at hop
      obtain ⟨u, u', hu1, hu2, hu3⟩ := vrs_two (opds_all hx hop)
      rw [hex, hval]
      refine ⟨_, ⟨u, u', hu2, hu3, rfl⟩, ?_⟩
      have e1 : c.args.map a.eval = #[u, u'] := by apply Array.toList_inj.1; simpa using hu1
      have e2 : c.argTypes = (t :: ts).toArray := by rw [← ht]
      rw [e1, e2]
      rfl
    · obtain ⟨h1, rfl⟩ := pairS_inv g
      refine opsim_pure fun ρ w a hop => ?_
      rw [hopr, hops] at hop
      have := opds_all hx hop
      obtain ⟨u, h2, h3⟩ := evMin_ok (P := X.E.P) (w := w) (ts := c.argTypes) (t := o.type) h1 this
      refine ⟨_, ?_, u, h2, h3⟩
      rw [hex, hval]
      have e1 : (c.args.toList.map a.eval).toArray = c.args.map a.eval := by apply Array.toList_inj.1; simp
      simp only [Bool.false_eq_true, if_false, e1]
      rfl
    · obtain ⟨h1, rfl⟩ := pairS_inv g
      refine opsim_pure fun ρ w a hop => ?_
      rw [hopr, hops] at hop
      have := opds_all hx hop
      obtain ⟨u, h2, h3⟩ := evMin_ok (P := X.E.P) (w := w) (ts := c.argTypes) (t := o.type) h1 this
      refine ⟨_, ?_, u, h2, h3⟩
      rw [hex, hval]
      have e1 : (c.args.toList.map a.eval).toArray = c.args.map a.eval := by apply Array.toList_inj.1; simp
      simp only [if_true, e1]
      rfl
  | value f =>
    rw [hc] at h
    simp only [evCallee] at h
    have hops : c.operands = #[f] ++ c.args := by simp [Call.operands, hc]
    obtain ⟨g, fi, ca, args, hf, hargs, h⟩ := callO_inv h
    intro hok
    obtain ⟨h1, h2, h3⟩ := hC _ _ _ _ _ h hok
    refine ⟨h1, h2, fun F ρ w a hw hfr hm hop K Q hp => ?_⟩
    rw [hopr, hops] at hop
    have hfv := hop f (by simp) _ hf
    simp only [VR] at hfv
    obtain ⟨xs, ys, hxs, hys, hfe⟩ := hfv
    have hav := opds_all hargs (fun y hy => hop y (by simp at hy ⊢; exact .inr hy))
    have hall := hxs.app (hav.app hys)
    have := h3 F ρ w _ hw hfr hm hall o a K Q hp
    unfold Oper.wp
    rw [hex]
    simp only [resolve, hc, hfe, Deferred.ofValue, Sem.run_bind, Sem.run_pure, Result.andThen_ok, invoke]
    have e1 : (xs ++ (List.map a.eval c.args.toList ++ ys)).toArray = xs.toArray ++ Array.map a.eval c.args ++ ys.toArray := by
      apply Array.toList_inj.1
      simp
    rw [← e1]
    exact this
end
end Go.Proofs.YtndpcphmndfajaaGreatDoor

namespace Go.Proofs.YtndpcphmndfajaaGreatDoor
open Go.RowKit
set_option linter.unusedVariables false
set_option linter.unusedSimpArgs false

section
variable {X : Cx} {C : CallF}

theorem evPick_inv {c : Option SV} {S : St} {x y : Operand} {q : SV × St} (h : evPick c S x y = some q) : ∃ b, c = some (.b b) ∧ pairS (S.opd (if b then x else y)) S = some q := by
  unfold evPick at h
  split at h
  · exact ⟨true, rfl, h⟩
  · exact ⟨false, rfl, h⟩
  · cases h
theorem loadO_inv {a : Option SV} {P : Program} {S : St} {t : TypeId} {q : SV × St} (h : loadO a P S t = some q) : ∃ x, a = some x ∧ evLoad x P S t = some q := by
  cases a with
  | none => cases h
  | some x => exact ⟨x, rfl, h⟩
theorem storeO_inv {a b : Option SV} {P : Program} {ng : Nat} {S : St} {t : TypeId} {q : SV × St} (h : storeO a b P ng S t = some q) : ∃ x y, a = some x ∧ b = some y ∧ undS (evStore x P ng S t y) = some q := by
  unfold storeO at h
  split at h
  · exact ⟨_, _, rfl, rfl, h⟩
  · cases h
theorem nilO_inv {a : Option SV} {S : St} {q : SV × St} (h : nilO a S = some q) : ∃ x, a = some x ∧ q = (x, S) ∧ ((∃ b o, x = .p b o) ∨ ∃ f y z, x = .f f y z) := by
  unfold nilO at h
  split at h
  · simp only [Option.some.injEq] at h; exact ⟨_, rfl, h.symm, .inl ⟨_, _, rfl⟩⟩
  · simp only [Option.some.injEq] at h; exact ⟨_, rfl, h.symm, .inr ⟨_, _, _, rfl⟩⟩
  · cases h
theorem binO_inv {a b : Option SV} {P : Program} {op : BinOp} {t : TypeId} {S : St} {q : SV × St} (h : binO a b P op t S = some q) : ∃ x y, a = some x ∧ b = some y ∧ pairS (evBin x y P op t) S = some q := by
  unfold binO at h
  split at h
  · exact ⟨_, _, rfl, rfl, h⟩
  · cases h
theorem unO_inv {a : Option SV} {op : UnOp} {S : St} {q : SV × St} (h : unO a op S = some q) : ∃ x, a = some x ∧ pairS (evUn op x) S = some q := by
  cases a with
  | none => cases h
  | some x => exact ⟨x, rfl, h⟩
theorem convO_inv {a : Option SV} {P : Program} {S : St} {s d : TypeId} {q : SV × St} (h : convO a P S s d = some q) : ∃ x, a = some x ∧ evConv P S s d x = some q := by
  cases a with
  | none => cases h
  | some x => exact ⟨x, rfl, h⟩
theorem funcO_inv {a b : Option (List SV)} {f : Fn} {S : St} {q : SV × St} (h : funcO a b f S = some q) : ∃ g x y, f = .func g ∧ a = some x ∧ b = some y ∧ q = (.f g x y, S) := by
  unfold funcO at h
  split at h
  · simp only [Option.some.injEq] at h; exact ⟨_, _, _, rfl, rfl, rfl, h.symm⟩
  · cases h
theorem sliceO_inv {a : Option SV} {l h m : Option (Option SV)} {P : Program} {t : TypeId} {S : St} {q : SV × St} (hh : sliceO a l h m P t S = some q) : ∃ x l' h' m', a = some x ∧ l = some l' ∧ h = some h' ∧ m = some m' ∧ pairS (evSlice P t x l' h' m') S = some q := by
  unfold sliceO at hh
  split at hh
  · exact ⟨_, _, _, _, rfl, rfl, rfl, rfl, hh⟩
  · cases hh
theorem fieldAO_inv {a : Option SV} {P : Program} {t : TypeId} {k : Nat} {S : St} {q : SV × St} (h : fieldAO a P t k S = some q) : ∃ x, a = some x ∧ pairS (evFieldAddr (P.underlying t) x P k) S = some q := by
  cases a with
  | none => cases h
  | some x => exact ⟨x, rfl, h⟩
theorem fieldO_inv {a : Option SV} {P : Program} {t : TypeId} {k : Nat} {S : St} {q : SV × St} (h : fieldO a P t k S = some q) : ∃ x, a = some x ∧ pairS (evField (P.underlying t) x P k) S = some q := by
  cases a with
  | none => cases h
  | some x => exact ⟨x, rfl, h⟩
theorem indexAO_inv {a b : Option SV} {P : Program} {t : TypeId} {S : St} {q : SV × St} (h : indexAO a b P t S = some q) : ∃ x y, a = some x ∧ b = some y ∧ pairS (evIndexAddr y x P t) S = some q := by
  unfold indexAO at h
  split at h
  · exact ⟨_, _, rfl, rfl, h⟩
  · cases h
theorem indexO_inv {a b : Option SV} {P : Program} {t : TypeId} {S : St} {q : SV × St} (h : indexO a b P t S = some q) : ∃ x y, a = some x ∧ b = some y ∧ pairS (evIndex y x P t) S = some q := by
  unfold indexO at h
  split at h
  · exact ⟨_, _, rfl, rfl, h⟩
  · cases h
theorem lookO_inv {a b : Option SV} {P : Program} {t : TypeId} {ok : Bool} {S : St} {q : SV × St} (h : lookO a b P t ok S = some q) : ∃ x y, a = some x ∧ b = some y ∧ evLookup P S t x y ok = some q := by
  unfold lookO at h
  split at h
  · exact ⟨_, _, rfl, rfl, h⟩
  · cases h
theorem mapO_inv {a b c : Option SV} {P : Program} {ng : Nat} {t : TypeId} {S : St} {q : SV × St} (h : mapO a b c P ng t S = some q) : ∃ x y z, a = some x ∧ b = some y ∧ c = some z ∧ undS (evMapSet P ng S t x y z) = some q := by
  unfold mapO at h
  split at h
  · exact ⟨_, _, _, rfl, rfl, rfl, h⟩
  · cases h
theorem rangeO_inv {a : Option SV} {d : Option TypeDesc} {S : St} {q : SV × St} (h : rangeO a d S = some q) : ∃ l, a = some (.s l) ∧ d = some .string ∧ q = (.p S.c 0, S.new (.it l 0)) := by
  unfold rangeO at h
  split at h
  · simp only [Option.some.injEq] at h; exact ⟨_, rfl, rfl, h.symm⟩
  · cases h
theorem nextO_inv {a : Option SV} {ng : Nat} {S : St} {q : SV × St} (h : nextO a ng S = some q) : ∃ x, a = some x ∧ evNext ng S x = some q := by
  cases a with
  | none => cases h
  | some x => exact ⟨x, rfl, h⟩
theorem extrO_inv {a : Option SV} {k : Nat} {S : St} {q : SV × St} (h : extrO a k S = some q) : ∃ l, a = some (.tup l) ∧ pairS l[k]? S = some q := by
  unfold extrO at h
  split at h
  · exact ⟨_, rfl, h⟩
  · cases h
theorem evBox_inv {a : Option SV} {S : St} {t : TypeId} {q : SV × St} (h : evBox a S t = some q) : ∃ x, a = some x ∧ evBox (some x) S t = some q := by
  cases a with
  | none => cases h
  | some x => exact ⟨x, rfl, h⟩
theorem evBuild_inv {a : Option (List (Nat × SV))} {b : Option (List SV)} {P : Program} {t : TypeId} {S : St} {q : SV × St} (h : evBuild a b P t S = some q) : ∃ x, a = some x ∧ evBuild (some x) b P t S = some q := by
  cases a with
  | none => simp [evBuild] at h
  | some x => exact ⟨x, rfl, h⟩
theorem evBuildSlice_inv {a : Option (List (Nat × SV))} {b : Option (TypeId × Nat)} {P : Program} {n : Nat} {S : St} {q : SV × St} (h : evBuildSlice a b P n S = some q) : ∃ x, a = some x ∧ evBuildSlice (some x) b P n S = some q := by
  cases a with
  | none => simp [evBuildSlice] at h
  | some x => exact ⟨x, rfl, h⟩

theorem evOp_ok (hC : CallsSim X C) {o : Oper} {S S' : St} {v : SV} (h : evOp o.op X.E C S = some (v, S')) : OpSim X S S' v o := by
  obtain ⟨dst, op, ty, pos, after, guard⟩ := o
  cases op <;> simp only [evOp, reduceCtorEq] at h
  case move x =>
    obtain ⟨h1, rfl⟩ := pairS_inv h
    exact opsim_pure fun ρ w a ho => ⟨pure (a.eval x), rfl, _, rfl, ho x (by simp [Op.operands]) _ h1⟩
  case assign x =>
    obtain ⟨h1, rfl⟩ := pairS_inv h
    exact opsim_pure fun ρ w a ho => ⟨pure (a.eval x), rfl, _, rfl, ho x (by simp [Op.operands]) _ h1⟩
  case pick c x y =>
    obtain ⟨b, hb, g⟩ := evPick_inv h
    obtain ⟨h1, rfl⟩ := pairS_inv g
    refine opsim_pure fun ρ w a ho => ⟨pure (a.eval (if b then x else y)), ?_, _, rfl, ho _ (by cases b <;> simp [Op.operands]) _ h1⟩
    have := ho c (by simp [Op.operands]) _ hb
    simp only [VR] at this
    simp only [execOp, this, asBool]
    cases b <;> rfl
  case alloc t =>
    exact opsim_value (evAlloc_tri h) fun ρ a ho => ⟨_, rfl, rfl⟩
  case box t x =>
    obtain ⟨u, hu, g⟩ := evBox_inv h
    exact opsim_value (evBox_tri g) fun ρ a ho => ⟨_, ⟨_, ho x (by simp [Op.operands]) _ hu, rfl⟩, rfl⟩
  case build t ps =>
    obtain ⟨vs, hvs, g⟩ := evBuild_inv h
    refine opsim_value (evBuild_tri g) fun ρ a ho => ⟨_, ⟨_, parts_ok (a := a) hvs ?_, rfl⟩, ?_⟩
    · intro x hx; exact ho x (by simpa [Op.operands] using hx)
    · simp only [execOp]
      congr 2
      apply Array.toList_inj.1
      simp
  case buildSlice t len ps =>
    obtain ⟨vs, hvs, g⟩ := evBuildSlice_inv h
    refine opsim_value (evBuildSlice_tri g) fun ρ a ho => ⟨_, ⟨_, parts_ok (a := a) hvs ?_, rfl⟩, ?_⟩
    · intro x hx; exact ho x (by simpa [Op.operands] using hx)
    · simp only [execOp]
      congr 2
      apply Array.toList_inj.1
      simp
  case load t x =>
    obtain ⟨u, hu, g⟩ := loadO_inv h
    exact opsim_value (evLoad_tri g) fun ρ a ho => ⟨_, ⟨_, ho x (by simp [Op.operands]) _ hu, rfl⟩, rfl⟩
  case store t x y =>
    obtain ⟨u, u', hu, hu', g⟩ := storeO_inv h
    obtain ⟨g2, rfl⟩ := undS_inv g
    exact opsim_skip (evStore_tri g2) fun ρ a ho => ⟨_, ⟨_, _, ho x (by simp [Op.operands]) _ hu, ho y (by simp [Op.operands]) _ hu', rfl⟩, rfl⟩
  case nilCheck x =>
    obtain ⟨u, hu, g, hsh⟩ := nilO_inv h
    simp only [Prod.mk.injEq] at g
    obtain ⟨rfl, rfl⟩ := g
    refine opsim_pure fun ρ w a ho => ⟨pure (a.eval x), ?_, _, rfl, ho x (by simp [Op.operands]) _ hu⟩
    have := ho x (by simp [Op.operands]) _ hu
    rcases hsh with ⟨b, o, rfl⟩ | ⟨f, y, z, rfl⟩
    · simp only [VR] at this
      obtain ⟨n, _, e⟩ := this
      simp only [execOp, e]
      rfl
    · simp only [VR] at this
      obtain ⟨y', z', _, _, e⟩ := this
      simp only [execOp, e]
      rfl
  case binOp op t x y yt =>
    obtain ⟨u, u', hu, hu', g⟩ := binO_inv h
    obtain ⟨h1, rfl⟩ := pairS_inv g
    refine opsim_pure fun ρ w a ho => ?_
    obtain ⟨q, h2, h3⟩ := evBin_ok (P := X.E.P) (w := w) x y h1 (ho x (by simp [Op.operands]) _ hu) (ho y (by simp [Op.operands]) _ hu')
    exact ⟨_, rfl, q, h2, h3⟩
  case unOp op t x =>
    obtain ⟨u, hu, g⟩ := unO_inv h
    obtain ⟨h1, rfl⟩ := pairS_inv g
    refine opsim_pure fun ρ w a ho => ?_
    obtain ⟨q, h2, h3⟩ := evUn_ok (P := X.E.P) (w := w) h1 (ho x (by simp [Op.operands]) _ hu)
    exact ⟨_, rfl, q, h2, h3⟩
  case convert s d x =>
    obtain ⟨u, hu, g⟩ := convO_inv h
    exact opsim_value (evConv_tri g) fun ρ a ho => ⟨_, ⟨_, ho x (by simp [Op.operands]) _ hu, rfl⟩, rfl⟩
  case makeFunc f fi ca =>
    obtain ⟨g, x, y, rfl, hx, hy, e⟩ := funcO_inv h
    simp only [Prod.mk.injEq] at e
    obtain ⟨rfl, rfl⟩ := e
    refine opsim_pure fun ρ w a ho => ⟨_, rfl, _, rfl, ?_⟩
    simp only [VR]
    have h1 := opds_all (a := a) hx fun z hz => ho z (by simp [Op.operands] at hz ⊢; exact .inl hz)
    have h2 := opds_all (a := a) hy fun z hz => ho z (by simp [Op.operands] at hz ⊢; exact .inr hz)
    refine ⟨_, _, h1, h2, ?_⟩
    congr 1 <;> (apply Array.toList_inj.1; simp)
  case makeMap t r =>
    cases r with
    | some r => simp at h
    | none =>
      simp only [Option.some.injEq, Prod.mk.injEq] at h
      obtain ⟨rfl, rfl⟩ := h
      exact opsim_value (evMakeMap_tri (t := t)) fun ρ a ho => ⟨_, rfl, rfl⟩
  case makeSlice t l c =>
    cases hl : S.opd l with
    | none => rw [hl] at h; simp [msO] at h
    | some u =>
      cases hc : S.opd c with
      | none => rw [hl, hc] at h; simp [msO] at h
      | some u' =>
        rw [hl, hc] at h
        exact opsim_value (evMake_tri h) fun ρ a ho => ⟨_, ⟨_, _, ho l (by simp [Op.operands]) _ hl, ho c (by simp [Op.operands]) _ hc, rfl⟩, rfl⟩
  case slice t x lo hi mx =>
    obtain ⟨u, l', h', m', hu, hl, hh, hm, g⟩ := sliceO_inv h
    obtain ⟨h1, rfl⟩ := pairS_inv g
    refine opsim_pure fun ρ w a ho => ?_
    obtain ⟨q, h2, h3⟩ := evSlice_ok (P := X.E.P) (w := w) h1 (ho x (by simp [Op.operands]) _ hu) (opd_opt (a := a) hl fun y hy => ho y (by simp [Op.operands, hy])) (opd_opt (a := a) hh fun y hy => ho y (by simp [Op.operands, hy])) (opd_opt (a := a) hm fun y hy => ho y (by simp [Op.operands, hy]))
    exact ⟨_, rfl, q, h2, h3⟩
  case fieldAddr t x k =>
    obtain ⟨u, hu, g⟩ := fieldAO_inv h
    obtain ⟨h1, rfl⟩ := pairS_inv g
    refine opsim_pure fun ρ w a ho => ?_
    obtain ⟨q, h2, h3⟩ := evFieldAddr_ok (P := X.E.P) (w := w) h1 (ho x (by simp [Op.operands]) _ hu)
    exact ⟨_, rfl, q, h2, h3⟩
  case field t x k =>
    obtain ⟨u, hu, g⟩ := fieldO_inv h
    obtain ⟨h1, rfl⟩ := pairS_inv g
    refine opsim_pure fun ρ w a ho => ?_
    obtain ⟨q, h2, h3⟩ := evField_ok (P := X.E.P) (w := w) h1 (ho x (by simp [Op.operands]) _ hu)
    exact ⟨_, rfl, q, h2, h3⟩
  case indexAddr t x y =>
    obtain ⟨u, u', hu, hu', g⟩ := indexAO_inv h
    obtain ⟨h1, rfl⟩ := pairS_inv g
    refine opsim_pure fun ρ w a ho => ?_
    obtain ⟨q, h2, h3⟩ := evIndexAddr_ok (P := X.E.P) (w := w) h1 (ho x (by simp [Op.operands]) _ hu) (ho y (by simp [Op.operands]) _ hu')
    exact ⟨_, rfl, q, h2, h3⟩
  case index t x y =>
    obtain ⟨u, u', hu, hu', g⟩ := indexO_inv h
    obtain ⟨h1, rfl⟩ := pairS_inv g
    refine opsim_pure fun ρ w a ho => ?_
    obtain ⟨q, h2, h3⟩ := evIndex_ok (P := X.E.P) (w := w) h1 (ho x (by simp [Op.operands]) _ hu) (ho y (by simp [Op.operands]) _ hu')
    exact ⟨_, rfl, q, h2, h3⟩
  case lookup t x y ok =>
    obtain ⟨u, u', hu, hu', g⟩ := lookO_inv h
    exact opsim_value (evLookup_tri g) fun ρ a ho => ⟨_, ⟨_, _, ho x (by simp [Op.operands]) _ hu, ho y (by simp [Op.operands]) _ hu', rfl⟩, rfl⟩
  case mapUpdate t x y z =>
    obtain ⟨u, u', u'', hu, hu', hu'', g⟩ := mapO_inv h
    obtain ⟨g2, rfl⟩ := undS_inv g
    exact opsim_skip (evMapSet_tri g2) fun ρ a ho => ⟨_, ⟨_, _, _, ho x (by simp [Op.operands]) _ hu, ho y (by simp [Op.operands]) _ hu', ho z (by simp [Op.operands]) _ hu'', rfl⟩, rfl⟩
  case range t x =>
    obtain ⟨l, hl, hd, e⟩ := rangeO_inv h
    simp only [Prod.mk.injEq] at e
    obtain ⟨rfl, rfl⟩ := e
    exact opsim_value (evRange_tri hd) fun ρ a ho => ⟨_, ⟨_, ho x (by simp [Op.operands]) _ hl, rfl⟩, rfl⟩
  case next x b =>
    cases b with
    | false => simp at h
    | true =>
      obtain ⟨u, hu, g⟩ := nextO_inv h
      exact opsim_value (evNext_tri ty g) fun ρ a ho => ⟨_, ⟨_, ho x (by simp [Op.operands]) _ hu, rfl⟩, rfl⟩
  case extract x k =>
    obtain ⟨l, hl, g⟩ := extrO_inv h
    obtain ⟨h1, rfl⟩ := pairS_inv g
    refine opsim_pure fun ρ w a ho => ?_
    have := ho x (by simp [Op.operands]) _ hl
    simp only [VR] at this
    obtain ⟨us, hus, e⟩ := this
    obtain ⟨q, h2, h3⟩ := hus.get h1
    refine ⟨_, rfl, q, ?_, h3⟩
    simp [Instr.extract, e, h2]
  case call c => exact evCallee_ok hC rfl h
end
end Go.Proofs.YtndpcphmndfajaaGreatDoor

namespace Go.Proofs.YtndpcphmndfajaaGreatDoor
open Go.RowKit
set_option linter.unusedVariables false
set_option linter.unusedSimpArgs false

section
variable {X : Cx} {C : CallF}

theorem put_inv {S S' : St} {d : Option Tmp} {v : SV} (h : S.put d v = some S') : (d = none ∧ S' = S) ∨ ∃ t, d = some t ∧ t < S.nt ∧ S' = { S with T := S.T.set (t + 1) t (some v) } := by
  cases d with
  | none => simp only [St.put, Option.some.injEq] at h; exact .inl ⟨rfl, h.symm⟩
  | some t =>
    simp only [St.put] at h
    cases hb : Nat.blt t S.nt with
    | false => rw [hb] at h; cases h
    | true =>
      rw [hb] at h
      simp only [Option.some.injEq] at h
      exact .inr ⟨t, rfl, blt_t hb, h.symm⟩
theorem put_same {S S' : St} {d : Option Tmp} {v : SV} (h : S.put d v = some S') : S'.H = S.H ∧ S'.c = S.c ∧ S'.r = S.r ∧ S'.w = S.w ∧ S'.nt = S.nt ∧ S'.ng = S.ng := by
  rcases put_inv h with ⟨_, rfl⟩ | ⟨t, _, _, rfl⟩ <;> exact ⟨rfl, rfl, rfl, rfl, rfl, rfl⟩
theorem put_get {S S' : St} {d : Option Tmp} {v : SV} (h : S.put d v = some S') (t : Tmp) : S'.T.get t = if d = some t then some v else S.T.get t := by
  rcases put_inv h with ⟨rfl, rfl⟩ | ⟨t', rfl, _, rfl⟩
  · simp
  · simp only [Option.some.injEq]
    rw [tr_get_set _ _ _ _ _ (Nat.lt_succ_self _)]
    by_cases he : t = t'
    · simp [he]
    · rw [if_neg he, if_neg (fun e => he e.symm)]
theorem getD_put {a : Act} {d : Option Tmp} {u : Value} (t : Tmp) (hd : ∀ t', d = some t' → t' < a.tmps.size) : (a.put d u).tmps.getD t undef = if d = some t then u else a.tmps.getD t undef := by
  cases d with
  | none => simp [Act.put]
  | some t' =>
    have := hd t' rfl
    simp only [Act.put, Option.some.injEq]
    by_cases he : t' = t
    · subst he; simp [this]
    · rw [if_neg he]; simp [Array.getElem?_setIfInBounds_ne he]
theorem size_put (a : Act) (d : Option Tmp) (u : Value) : (a.put d u).tmps.size = a.tmps.size := by cases d <;> simp [Act.put]
theorem defers_put (a : Act) (d : Option Tmp) (u : Value) : (a.put d u).defers = a.defers := by cases d <;> rfl

/-- A frame and a world that belong to the evaluator's state. -/
structure SR (X : Cx) (F : Nat → Prop) (ρ : Ren) (S : St) (a : Act) (w : World) : Prop where
  sz : a.tmps.size = S.nt
  tm : ∀ t v, S.T.get t = some v → VR ρ v (a.tmps.getD t undef)
  df : a.defers = []
  ng : S.ng = X.E.ng
  m : MR X F ρ S.H w
theorem opd_ok {S : St} {ρ : Ren} {a : Act} (hg : ∀ g, g < S.ng → ρ.r g g) {x : Operand} (ht : ∀ t v, x = .tmp t → S.T.get t = some v → VR ρ v (a.tmps.getD t undef)) : ∀ u, S.opd x = some u → VR ρ u (a.eval x) := by
  intro u hu
  cases x with
  | tmp t => exact ht t u rfl hu
  | const v => exact ofV_ok hu
  | global g =>
    simp only [St.opd] at hu
    cases hb : Nat.blt g S.ng with
    | false => rw [hb] at hu; cases hu
    | true =>
      rw [hb] at hu
      simp only [Option.some.injEq] at hu
      subst hu
      simp only [VR, Act.eval]
      exact ⟨g, hg g (blt_t hb), rfl⟩
  | func f =>
    simp only [St.opd, Option.some.injEq] at hu
    subst hu
    simp only [VR, Act.eval]
    exact ⟨[], [], vrs_nil.2 rfl, vrs_nil.2 rfl, rfl⟩

theorem want_ok {ops : Array Oper} {S : St} {ρ : Ren} {a : Act} {o : Oper} {b : Bool} (h : evWant o.guard ops S = some b)
    (hg : ∀ j want t v, o.guard = some (j, want) → (ops[j]?).bind (·.dst) = some t → S.T.get t = some v → VR ρ v (a.tmps.getD t undef)) : Region.wanted o (yielded ops a.tmps) = b := by
  unfold Region.wanted
  cases hgd : o.guard with
  | none => rw [hgd] at h; simp only [evWant, Option.some.injEq] at h; exact h
  | some jw =>
    obtain ⟨j, want⟩ := jw
    rw [hgd] at h
    simp only [evWant] at h
    cases ht : (ops[j]?).bind (·.dst) with
    | none => rw [ht] at h; cases h
    | some t =>
      rw [ht] at h
      simp only [wantT] at h
      cases hv : S.T.get t with
      | none => rw [hv] at h; simp [wantV] at h
      | some v =>
        rw [hv] at h
        have hr := hg j want t v hgd ht hv
        have hy : yielded ops a.tmps j = match (a.tmps[t]? : Option Value) with | some (.bool b) => some b | _ => none := by
          unfold yielded
          rw [ht]
          rfl
        simp only [hy]
        rw [Array.getD_eq_getD_getElem?] at hr
        cases v <;> simp only [wantV, reduceCtorEq, Option.some.injEq] at h
        case b x =>
          simp only [VR] at hr
          have : a.tmps[t]? = some (.bool x) := by
            cases hq : a.tmps[t]? with
            | none => rw [hq] at hr; cases hr
            | some q => rw [hq] at hr; simp only [Option.getD_some] at hr; rw [hr]
          rw [this, ← h]
          cases x <;> cases want <;> rfl
        case und =>
          simp only [VR] at hr
          subst h
          cases hq : a.tmps[t]? with
          | none => rfl
          | some q => rw [hq] at hr; simp only [Option.getD_some] at hr; subst hr; rfl

/-- An operation comes up. -/
def wpO (P : Program) (ops : Array Oper) (Q : Exit → Act → World → Prop) (o : Oper) (K : Act → World → Prop) (a : Act) (w : World) : Prop :=
  if Region.wanted o (yielded ops a.tmps) then o.wp P a w K Q ∨ (o.asks P a w ∧ LetsOut Q) else K (a.put o.dst undef) w
theorem one_ok (hC : CallsSim X C) {ops : Array Oper} {o : Oper} {S S1 : St} {v : SV} (h : evOne X.E C ops S o = some (v, S1)) :
    OkE S → OkE S1 ∧ Ext S S1 ∧ ∀ F ρ w a, Wth F S S1 → Frsh ρ S.c S1.c → MR X F ρ S.H w → Opds S ρ a o.op.operands.toList →
      (∀ j want t v, o.guard = some (j, want) → (ops[j]?).bind (·.dst) = some t → S.T.get t = some v → VR ρ v (a.tmps.getD t undef)) → ∀ K Q, Post X F S S1 v ρ w (fun u w' => K (a.put o.dst u) w') → wpO X.E.P ops Q o K a w := by
  intro hok
  unfold evOne at h
  cases hw : evWant o.guard ops S with
  | none => rw [hw] at h; cases h
  | some b =>
    rw [hw] at h
    cases b with
    | true =>
      simp only [oneK] at h
      obtain ⟨h1, h2, h3⟩ := evOp_ok hC h hok
      refine ⟨h1, h2, fun F ρ w a hwt hf hm ho hg K Q hp => ?_⟩
      unfold wpO
      rw [if_pos (want_ok hw hg)]
      exact .inl (h3 F ρ w a hwt hf hm ho K Q hp)
    | false =>
      simp only [oneK, Option.some.injEq, Prod.mk.injEq] at h
      obtain ⟨rfl, rfl⟩ := h
      refine ⟨hok, .refl _, fun F ρ w a hwt hf hm ho hg K Q hp => ?_⟩
      unfold wpO
      rw [if_neg (by rw [want_ok hw hg]; decide)]
      exact hp undef w ρ (by simp only [VR]) .refl (hm.sub FN.same)

theorem sr_put {F : Nat → Prop} {ρ σ : Ren} {S S1 S2 : St} {a : Act} {w w' : World} {o : Oper} {v : SV} {u : Value} (h : SR X F ρ S a w) (hT : S1.T = S.T ∧ S1.nt = S.nt ∧ S1.ng = S.ng) (hp : S1.put o.dst v = some S2) (hle : ρ.le σ) (hv : VR σ v u) {G : Nat → Prop} (hm : MR X G σ S1.H w') : SR X G σ S2 (a.put o.dst u) w' := by
  obtain ⟨h1, h2, h3, h4, h5, h6⟩ := put_same hp
  have hlt : ∀ t', o.dst = some t' → t' < a.tmps.size := fun t' e => by
    rcases put_inv hp with ⟨e2, _⟩ | ⟨t, e2, hlt, _⟩
    · rw [e] at e2; cases e2
    · rw [e] at e2; injection e2 with e2; rw [h.sz, ← hT.2.1, e2]; exact hlt
  refine ⟨by rw [size_put, h5, hT.2.1]; exact h.sz, fun t q hq => ?_, by rw [defers_put]; exact h.df, by rw [h6, hT.2.2]; exact h.ng, by rw [h1]; exact hm⟩
  rw [put_get hp] at hq
  rw [getD_put t hlt]
  by_cases he : o.dst = some t
  · rw [if_pos he] at hq ⊢
    injection hq with hq
    subst hq
    exact hv
  · rw [if_neg he] at hq ⊢
    rw [hT.1] at hq
    exact (h.tm t q hq).mono hle

theorem ex0_put {S S' : St} {d : Option Tmp} {v : SV} (h : S.put d v = some S') : Ex0 S S' := by
  obtain ⟨h1, h2, h3, h4, h5, h6⟩ := put_same h
  exact ⟨by rw [h2]; exact Nat.le_refl _, fun b hb => by rw [h3]; exact hb, fun b hb => by rw [h4]; exact hb, fun b _ _ => by rw [h1], fun b _ hn => by rw [h1]; exact hn, h6, h5⟩
theorem putR_inv {r : Option (SV × St)} {d : Option Tmp} {S : St} (h : putR r d = some S) : ∃ v S1, r = some (v, S1) ∧ S1.put d v = some S := by
  cases r with
  | none => cases h
  | some q => exact ⟨q.1, q.2, rfl, h⟩
theorem contS_inv {r : Option St} {k : St → Option St} {S : St} (h : contS r k = some S) : ∃ S1, r = some S1 ∧ k S1 = some S := by
  cases r with
  | none => cases h
  | some S1 => exact ⟨S1, rfl, h⟩
theorem wth_mono {F : Nat → Prop} {S S1 S2 : St} (h : Wth F S S2) (hr : ∀ b, S1.r.testBit b = true → S2.r.testBit b = true) (hw : ∀ b, S1.w.testBit b = true → S2.w.testBit b = true) : Wth F S S1 :=
  fun b hb hh => h b hb (hh.imp (hr b) (hw b))
theorem wth_next {F : Nat → Prop} {S S1 S2 : St} (h : Wth F S S2) : Wth (FN F S.c S1.c) S1 S2 := fun b hb hh => by
  by_cases hlt : b < S.c
  · exact .inl (h b hlt hh)
  · exact .inr ⟨by omega, hb⟩
theorem FN.trans {F : Nat → Prop} {c c' c'' : Nat} (h : c ≤ c') (h' : c' ≤ c'') (b : Nat) (k : FN F c c'' b) : FN (FN F c c') c' c'' b := by
  rcases k with k | k
  · exact .inl (.inl k)
  · by_cases hlt : b < c'
    · exact .inl (.inr ⟨k.1, hlt⟩)
    · exact .inr ⟨by omega, k.2⟩

/-- What a run of code shows. -/
def LSim (X : Cx) (S S' : St) (W : Act → World → (Act → World → Prop) → Prop) : Prop :=
  OkE S → OkE S' ∧ Ex0 S S' ∧ ∀ F ρ w a, Wth F S S' → Frsh ρ S.c S'.c → SR X F ρ S a w → ∀ K : Act → World → Prop,
    (∀ a' w' σ, Stp S'.w S.c S'.c S'.H ρ σ w w' → SR X (FN F S.c S'.c) σ S' a' w' → K a' w') → W a w K

theorem evList_ok (hC : CallsSim X C) (ops : Array Oper) (Q : Exit → Act → World → Prop) : ∀ {l : List Oper} {S S' : St}, evList l X.E C ops S = some S' →
    OkE S → OkE S' ∧ Ex0 S S' ∧ ∀ F ρ w a, Wth F S S' → Frsh ρ S.c S'.c → SR X F ρ S a w →
      (∀ a' w' σ, Stp S'.w S.c S'.c S'.H ρ σ w w' → SR X (FN F S.c S'.c) σ S' a' w' → Q .normal a' w') → wpList X.E.P ops Q l a w
  | [], S, S', h, hok => by
    simp only [evList, Option.some.injEq] at h
    subst h
    exact ⟨hok, .refl _, fun F ρ w a _ _ hs hQ => hQ a w ρ .refl ⟨hs.sz, hs.tm, hs.df, hs.ng, hs.m.sub FN.same⟩⟩
  | o :: l, S, S', h, hok => by
    simp only [evList] at h
    obtain ⟨S2, h1, h2⟩ := contS_inv h
    obtain ⟨v, S1, h3, h4⟩ := putR_inv h1
    obtain ⟨g1, g2, g3⟩ := one_ok hC h3 hok
    obtain ⟨e1, e2, e3, e4, e5, e6⟩ := put_same h4
    have hok2 : OkE S2 := fun b x hx => by rw [e1] at hx; rw [e2]; exact g1 b x hx
    obtain ⟨q1, q2, q3⟩ := evList_ok hC ops Q h2 hok2
    refine ⟨q1, (g2.to.trans (ex0_put h4)).trans q2, fun F ρ w a hw hf hs hQ => ?_⟩
    have hc1 : S.c ≤ S1.c := g2.c
    have hc2 : S1.c ≤ S'.c := by rw [← e2]; exact q2.c
    have hw1 : Wth F S S1 := wth_mono hw (fun b hb => q2.r b (by rw [e3]; exact hb)) (fun b hb => q2.w b (by rw [e4]; exact hb))
    have hf1 : Frsh ρ S.c S1.c := fun b h1 h2 => hf b h1 (by omega)
    have hgl : ∀ g, g < S.ng → ρ.r g g := fun g hg => (hs.m.gl g (by rw [← hs.ng]; exact hg)).1
    have := g3 F ρ w a hw1 hf1 hs.m (fun x hx => opd_ok hgl (fun t v _ hv => hs.tm t v hv)) (fun j want t v _ _ hv => hs.tm t v hv) (wpList X.E.P ops Q l) Q (fun u w' σ hu hst hm => by
      have hs2 : SR X (FN F S.c S1.c) σ S2 (a.put o.dst u) w' := sr_put hs ⟨g2.t.1, g2.t.2, g2.g⟩ h4 hst.le hu hm
      have hf2 : Frsh σ S2.c S'.c := by rw [e2]; exact hst.frsh hf hc1
      refine q3 _ σ w' _ (by rw [show FN F S.c S1.c = FN F S.c S2.c by rw [e2]]; exact wth_next hw) hf2 hs2 (fun a' w'' τ hst2 hs3 => ?_)
      rw [e2] at hst2 hs3
      refine hQ a' w'' τ (hst.trans hst2 (fun b hb => q2.w b (by rw [e4]; exact hb)) hc1 hc2 (fun b hb hn => q2.n b (by rw [e2]; exact hb) (by rw [e1]; exact hn))) ⟨hs3.sz, hs3.tm, hs3.df, hs3.ng, hs3.m.sub (FN.trans hc1 hc2)⟩)
    unfold wpO at this
    unfold wpList
    exact this
end
end Go.Proofs.YtndpcphmndfajaaGreatDoor
