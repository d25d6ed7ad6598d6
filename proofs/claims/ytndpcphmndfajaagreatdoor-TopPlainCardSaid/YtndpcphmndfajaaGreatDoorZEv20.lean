/- The evaluator: regions that draw, code, calls: its runs are the model's. | The evaluator: code and calls: its runs are the model's. | The evaluator: calls; what a run at a start shows. | The evaluator: what its runs show of the model's. -/
import Derived.Test.YtndpcphmndfajaaGreatDoorZEv17
import Derived.LoopN

namespace Go.Proofs.YtndpcphmndfajaaGreatDoor
open Go.RowKit
set_option linter.unusedVariables false
set_option linter.unusedSimpArgs false

section
variable {X : Cx} {C : CallF} {ops : Array Oper}

def cnt (ops : Array Oper) (listed : Array Bool) : Nat := (List.range ops.size).countP fun j => !listed.getD j false
theorem countP_lt {α : Type} {p q : α → Bool} : ∀ {l : List α}, (∀ x ∈ l, q x = true → p x = true) → (∃ x ∈ l, p x = true ∧ q x = false) → l.countP q < l.countP p
  | [], _, ⟨x, hx, _⟩ => by cases hx
  | y :: l, h, ⟨x, hx, h1, h2⟩ => by
    have hle : l.countP q ≤ l.countP p := List.countP_mono_left fun z hz hq => h z (by simp [hz]) hq
    rcases List.mem_cons.1 hx with rfl | hx
    · rw [List.countP_cons_of_pos h1, List.countP_cons_of_neg (by rw [h2]; decide)]
      omega
    · have ih := countP_lt (l := l) (fun z hz hq => h z (by simp [hz]) hq) ⟨x, hx, h1, h2⟩
      by_cases hq : q y = true
      · rw [List.countP_cons_of_pos hq, List.countP_cons_of_pos (h y (by simp) hq)]
        omega
      · rw [List.countP_cons_of_neg hq]
        have : l.countP p ≤ (y :: l).countP p := by rw [List.countP_cons]; omega
        omega
theorem all_ready {listed : Array Bool} (hreg : regOk ops 0 ops.toList (befs ops.toList []) = true) (hcl : Cl ops listed) (h : Region.ready .any ops listed = []) : ∀ j, j < ops.size → Ld listed j := by
  intro j
  induction j using Nat.strongRecOn with
  | _ j ih =>
    intro hj
    rcases e : listed.getD j false with _ | _
    · exfalso
      have ho : ops[j]? = some ops[j] := Array.getElem?_eq_getElem hj
      have : j ∈ Region.ready .any ops listed := by
        refine mem_ready.2 ⟨?_, ops[j], ho, fun ed hed hb => ?_⟩
        · have hl : j < listed.size := by rw [hcl.sz]; exact hj
          simp [hl] at e ⊢
          exact e
        · have hlt := edgesOk_spec (reg_edges hreg ho) ed (by simpa using hed) hb
          exact ih ed.on hlt (by omega)
      rw [h] at this
      cases this
    · exact e

theorem draw_any {st rs : Nat → St} {vs : Nat → SV} (hC : CallsSim X C) (cn : Canon X C ops st rs vs) (run : RunE X C ops ops.size st rs vs) (hreg : regOk ops 0 ops.toList (befs ops.toList []) = true)
    {F : Nat → Prop} {ρ0 : Ren} {w0 : World} {a0 : Act} (hok0 : OkE (st 0)) (hf0 : Frsh ρ0 (st 0).c (st ops.size).c) (hs0 : SR X F ρ0 (st 0) a0 w0) (hw : Wth F (st 0) (st ops.size)) {Q : Exit → Act → World → Prop}
    (hQ : ∀ a' w' σ, Stp (st ops.size).w (st 0).c (st ops.size).c (st ops.size).H ρ0 σ w0 w' → SR X (FN F (st 0).c (st ops.size).c) σ (st ops.size) a' w' → Q .normal a' w') :
    ∀ (fuel : Nat) (listed : Array Bool) (ρ : Ren) (a : Act) (w : World), Iv X ops st rs F ρ0 w0 listed ρ a w → cnt ops listed ≤ fuel → wpAny X.E.P .any ops Q fuel listed a w := by
  have fin : ∀ (listed : Array Bool) (ρ : Ren) (a : Act) (w : World), Iv X ops st rs F ρ0 w0 listed ρ a w → (∀ j, j < ops.size → Ld listed j) → Q .normal a w := by
    intro listed ρ a w iv hall
    have hh : ∀ b j, j < ops.size → Wn st rs j b → (Ld listed j ↔ j < ops.size) := fun b j hj _ => ⟨fun _ => hj, fun _ => hall j hj⟩
    have hF : ∀ b, FN F (st 0).c (st ops.size).c b → b < (st 0).c → F b := fun b hb hlt => by
      rcases hb with hb | hb
      · exact hb
      · omega
    refine hQ a w ρ iv.stp ⟨by rw [iv.sz, (cn.nt (Nat.le_refl _)).1], fun t v hv => ?_, iv.df, by rw [(cn.nt (Nat.le_refl _)).2]; exact hs0.ng, ?_⟩
    · exact iv.tm t v ops.size (Nat.le_refl _) hv fun j o ho _ => ⟨fun _ => (Array.getElem?_eq_some_iff.1 ho).1, fun hj => hall j hj⟩
    · refine ⟨fun b x hb hx => iv.hp b x ops.size (Nat.le_refl _) hx (hF b hb) (hh b), fun b hb hd => ?_, iv.fn, iv.ij, iv.rg, iv.lo, iv.gl, fun b n l e k z hb hg => iv.cp b n l e ops.size k z (Nat.le_refl _) hg (hF b hb) (hh b), iv.bl⟩
      cases hx : (st ops.size).H.get b with
      | none => rfl
      | some x => exact (iv.live cn hf0 hs0.m (Nat.le_refl _) hx (hF b hb) (hh b) hd).elim
  intro fuel
  induction fuel with
  | zero =>
    intro listed ρ a w iv hc
    have hall : ∀ j, j < ops.size → Ld listed j := by
      intro j hj
      rcases e : listed.getD j false with _ | _
      · exfalso
        have h0 : cnt ops listed = 0 := by omega
        unfold cnt at h0
        rw [List.countP_eq_zero] at h0
        exact h0 j (by simpa using hj) (by rw [e]; rfl)
      · exact e
    refine ⟨?_, fin listed ρ a w iv hall⟩
    cases hr : Region.ready .any ops listed with
    | nil => rfl
    | cons i r =>
      have hi : i ∈ Region.ready .any ops listed := by rw [hr]; simp
      obtain ⟨h1, h2, _⟩ := ready_lt hi
      exact (h2 (hall i h1)).elim
  | succ fuel ih =>
    intro listed ρ a w iv hc
    refine ⟨fun h0 => fin listed ρ a w iv (all_ready hreg iv.cl h0), fun i hi => ?_⟩
    obtain ⟨hin, hni, hil⟩ := ready_lt hi
    have ho : ops[i]? = some ops[i] := Array.getElem?_eq_getElem hin
    have hok : OkE (zr (st i)) := cn.ok i (by omega)
    obtain ⟨_, _, g3⟩ := one_ok hC (run.one i _ ho) hok
    have hgl : ∀ g, g < (zr (st i)).ng → ρ.r g g := fun g hg => (iv.gl g (by
      have : (zr (st i)).ng = (st 0).ng := (cn.nt (k := i) (by omega)).2
      rw [this, hs0.ng] at hg
      exact hg)).1
    have := g3 (fun b => Rn st rs i b) ρ w a (fun b _ hb => rn_iff.2 hb) (iv.frsh cn run hreg hf0 hi) (iv.mr cn run hreg hf0 hs0.m hw hi)
      (fun x hx => opd_ok hgl (fun t v e hv => by
        subst e
        exact iv.opd hreg hi ho (List.mem_append_left _ (List.mem_filterMap.2 ⟨.tmp t, by simpa using hx, rfl⟩)) hv))
      (fun j want t v hg ht hv => iv.opd hreg hi ho (by unfold Oper.looksAt; rw [hg]; exact List.mem_append_right _ (by show t ∈ ((ops[j]?).bind (·.dst)).toList; rw [ht]; simp)) hv)
      (wpAny X.E.P .any ops Q fuel (listed.setIfInBounds i true)) Q (fun u w' σ hu hst hm => by
        refine ih _ σ _ w' (iv.next cn run hreg hf0 hs0.m hw hi ho hu hst hm) ?_
        have : cnt ops (listed.setIfInBounds i true) < cnt ops listed := by
          unfold cnt
          refine countP_lt (fun j _ hj => ?_) ⟨i, by simpa using hin, ?_, ?_⟩
          · by_cases hij : i = j
            · subst hij; simp [hil] at hj
            · rw [getD_set_ne false hij] at hj; exact hj
          · rcases e : listed.getD i false with _ | _
            · rfl
            · exact (hni e).elim
          · simp [hil]
        omega)
    unfold wpOp
    rw [ho]
    exact this

theorem evDraw_ok (hC : CallsSim X C) {S S' : St} (hreg : regOk ops 0 ops.toList (befs ops.toList []) = true) (h : evDraw ops.toList (befs ops.toList []) X.E C ops [] S = some S') (Q : Exit → Act → World → Prop) :
    OkE S → OkE S' ∧ Ex0 S S' ∧ ∀ F ρ w a, Wth F S S' → Frsh ρ S.c S'.c → SR X F ρ S a w →
      (∀ a' w' σ, Stp S'.w S.c S'.c S'.H ρ σ w w' → SR X (FN F S.c S'.c) σ S' a' w' → Q .normal a' w') → wpAny X.E.P .any ops Q ops.size (Array.replicate ops.size false) a w := by
  intro hok
  obtain ⟨st, rs, vs, rfl, rfl, run⟩ := run_of_draw h
  have cn := canon hC run hok
  refine ⟨cn.ok _ (Nat.le_refl _), ⟨cn.c_le (Nat.zero_le _) (Nat.le_refl _), fun b => (cn.w_le (Nat.zero_le _) (Nat.le_refl _) b).2, fun b => (cn.w_le (Nat.zero_le _) (Nat.le_refl _) b).1, fun b hb hw => ?_, fun b hb hn => cn.none (Nat.zero_le _) (Nat.le_refl _) hb hn, (cn.nt (Nat.le_refl _)).2, (cn.nt (Nat.le_refl _)).1⟩, fun F ρ w a hwt hf hs hQ => ?_⟩
  · refine cn.keep (Nat.zero_le _) (Nat.le_refl _) fun j _ hj hW => ?_
    rcases (wn_iff (cn.ext j hj).c).1 hW with h1 | h1
    · rw [(cn.rs_le hj (Nat.le_refl _) b).1 h1] at hw; cases hw
    · have := cn.c_le (i := 0) (k := j) (Nat.zero_le _) (by omega)
      omega
  · have hno : ∀ j, ¬ Ld (Array.replicate ops.size false) j := fun j hl => by
      unfold Ld at hl
      rw [Array.getD_eq_getD_getElem?, Array.getElem?_replicate] at hl
      split at hl <;> simp at hl
    refine draw_any hC cn run hreg hok hf hs hwt hQ _ _ ρ a w ?_ ?_
    · refine ⟨⟨by simp, fun j o _ hl => (hno j hl).elim⟩, hs.sz, hs.df, ?_, fun b n hr _ => .inl hr, fun b hd => .inl hd, fun b n hq => .inl hq, ?_, ?_, ?_, hs.m.fn, hs.m.ij, hs.m.rg, hs.m.lo, hs.m.gl, hs.m.bl⟩
      · exact (Stp.refl (m := 0) (c := (st 0).c) (H := (st 0).H)).weak (fun b hb => by simp at hb) (Nat.le_refl _) (cn.c_le (Nat.zero_le _) (Nat.le_refl _)) (fun b hb hn => cn.none (Nat.zero_le _) (Nat.le_refl _) hb hn)
      · intro t v k hk hv hh
        refine hs.tm t v ?_
        rw [← hv]
        exact (cn.keepT (Nat.zero_le _) hk fun j o _ hj ho hd => hno j ((hh j o ho hd).2 hj)).symm
      · intro b x k hk hx hF hh
        have e := cn.keep (i := 0) (k := k) (b := b) (Nat.zero_le _) hk fun j _ hj hW => hno j ((hh j (by omega) hW).2 hj)
        rw [e] at hx
        exact hs.m.hp b x (hF (hok b x hx)) hx
      · intro b m l e k q z hk hx hF hh hr hq hz
        have e1 := cn.keep (i := 0) (k := k) (b := b) (Nat.zero_le _) hk fun j _ hj hW => hno j ((hh j (by omega) hW).2 hj)
        rw [e1] at hx
        exact hs.m.cp b m l e q z (hF (hok b _ hx)) hx hr hq hz
    · unfold cnt
      refine Nat.le_trans List.countP_le_length ?_
      simp
end
end Go.Proofs.YtndpcphmndfajaaGreatDoor

namespace Go.Proofs.YtndpcphmndfajaaGreatDoor
open Go.RowKit
set_option linter.unusedVariables false
set_option linter.unusedSimpArgs false

section
variable {X : Cx} {C : CallF} {R : CodeF}

def Ex.to : Ex → Exit
  | .normal => .normal
  | .exit id => .exit id
  | .ret => .ret
/-- A loop: so many rounds. -/
def CW (P : Program) (c : Code) (n : Nat) (Q : Exit → Act → World → Prop) (a : Act) (w : World) : Prop :=
  match c with
  | .loop b => Code.rounds P b Q n a w
  | c => c.wp P Q a w
theorem CW.wp {P : Program} {c : Code} {n : Nat} {Q : Exit → Act → World → Prop} {a : Act} {w : World} (h : CW P c n Q a w) : c.wp P Q a w := by
  cases c <;> first | exact h | exact wp_loop_rounds n h
def After (X : Cx) (F : Nat → Prop) (S S' : St) (ρ : Ren) (w : World) (k : Act → World → Prop) : Prop :=
  ∀ a' w' σ, Stp S'.w S.c S'.c S'.H ρ σ w w' → SR X (FN F S.c S'.c) σ S' a' w' → k a' w'
def CSim (X : Cx) (c : Code) (S S' : St) (e : Ex) : Prop :=
  OkE S → OkE S' ∧ Ex0 S S' ∧ ∃ n, ∀ F ρ w a, Wth F S S' → Frsh ρ S.c S'.c → SR X F ρ S a w → ∀ Q : Exit → Act → World → Prop, After X F S S' ρ w (Q e.to) → CW X.E.P c n Q a w
def RSim (X : Cx) (R : CodeF) : Prop := ∀ c S e S', R c S = some (e, S') → CSim X c S S' e

theorem csim_same {c : Code} {S : St} {e : Ex} (h : ∀ (Q : Exit → Act → World → Prop) a w, Q e.to a w → CW X.E.P c 0 Q a w) : CSim X c S S e := fun hok =>
  ⟨hok, .refl _, 0, fun F ρ w a _ _ hs Q hQ => h Q a w (hQ a w ρ .refl ⟨hs.sz, hs.tm, hs.df, hs.ng, hs.m.sub FN.same⟩)⟩
/-- One run behind another. -/
theorem after_trans {F : Nat → Prop} {S S1 S2 : St} {ρ : Ren} {w : World} {k : Act → World → Prop} (h1 : Ex0 S S1) (h2 : Ex0 S1 S2) (hk : After X F S S2 ρ w k) {a' : Act} {w' : World} {σ : Ren}
    (hst : Stp S1.w S.c S1.c S1.H ρ σ w w') : After X (FN F S.c S1.c) S1 S2 σ w' k := fun a'' w'' τ hst2 hs =>
  hk a'' w'' τ (hst.trans hst2 h2.w h1.c h2.c h2.n) ⟨hs.sz, hs.tm, hs.df, hs.ng, hs.m.sub (FN.trans h1.c h2.c)⟩

theorem seqK_inv {r : Option (Ex × St)} {R : CodeF} {b : Code} {e : Ex} {S' : St} (h : seqK r R b = some (e, S')) : (∃ S1, r = some (.normal, S1) ∧ R b S1 = some (e, S')) ∨ (r = some (e, S') ∧ e ≠ .normal) := by
  unfold seqK at h
  split at h
  · exact .inl ⟨_, rfl, h⟩
  · rename_i r' R' b' hn
    subst h
    exact .inr ⟨rfl, fun e1 => hn S' (by rw [e1])⟩
theorem blockK_inv {r : Option (Ex × St)} {id : Nat} {e : Ex} {S' : St} (h : blockK r id = some (e, S')) : (r = some (.exit id, S') ∧ e = .normal) ∨ (r = some (e, S') ∧ e ≠ .exit id) := by
  cases r with
  | none => cases h
  | some q =>
    obtain ⟨e0, S0⟩ := q
    cases e0 with
    | normal => have h : some (Ex.normal, S0) = some (e, S') := h; simp only [Option.some.injEq, Prod.mk.injEq] at h; obtain ⟨rfl, rfl⟩ := h; exact .inr ⟨rfl, fun e1 => by cases e1⟩
    | ret => have h : some (Ex.ret, S0) = some (e, S') := h; simp only [Option.some.injEq, Prod.mk.injEq] at h; obtain ⟨rfl, rfl⟩ := h; exact .inr ⟨rfl, fun e1 => by cases e1⟩
    | exit j =>
      simp only [blockK] at h
      cases hb : Nat.beq j id with
      | true =>
        rw [hb] at h
        have := Nat.eq_of_beq_eq_true hb
        subst this
        simp only [exitK, Option.some.injEq, Prod.mk.injEq] at h
        obtain ⟨rfl, rfl⟩ := h
        exact .inl ⟨rfl, rfl⟩
      | false =>
        rw [hb] at h
        simp only [exitK, Option.some.injEq, Prod.mk.injEq] at h
        obtain ⟨rfl, rfl⟩ := h
        refine .inr ⟨rfl, fun e1 => ?_⟩
        injection e1 with e1
        subst e1
        simp at hb

theorem then_pass {e : Ex} (h : e ≠ .normal) {k : Act → World → Prop} {Q : Exit → Act → World → Prop} {a : Act} {w : World} (hq : Q e.to a w) : Exit.then k Q e.to a w := by
  cases e
  · exact (h rfl).elim
  · exact hq
  · exact hq
theorem stepC_ok (hm : X.E.P.follows .mixedOrders = true) (hC : CallsSim X C) (hR : RSim X R) : RSim X (fun c S => stepC c X.E C R S) := by
  intro c S e S' h
  cases c with
  | skip =>
    simp only [stepC, Option.some.injEq, Prod.mk.injEq] at h
    obtain ⟨rfl, rfl⟩ := h
    exact csim_same fun Q a w hq => wp_skip hq
  | label l =>
    simp only [stepC, Option.some.injEq, Prod.mk.injEq] at h
    obtain ⟨rfl, rfl⟩ := h
    exact csim_same fun Q a w hq => wp_label hq
  | ret =>
    simp only [stepC, Option.some.injEq, Prod.mk.injEq] at h
    obtain ⟨rfl, rfl⟩ := h
    exact csim_same fun Q a w hq => wp_ret hq
  | exit id =>
    simp only [stepC, Option.some.injEq, Prod.mk.injEq] at h
    obtain ⟨rfl, rfl⟩ := h
    exact csim_same fun Q a w hq => wp_exit hq
  | seq x y =>
    simp only [stepC] at h
    rcases seqK_inv h with ⟨S1, h1, h2⟩ | ⟨h1, hn⟩
    · intro hok
      obtain ⟨a1, a2, n1, a3⟩ := hR _ _ _ _ h1 hok
      obtain ⟨b1, b2, n2, b3⟩ := hR _ _ _ _ h2 a1
      refine ⟨b1, a2.trans b2, 0, fun F ρ w a hw hf hs Q hQ => ?_⟩
      refine wp_seq (CW.wp (a3 F ρ w a (wth_mono hw b2.r b2.w) (fun b p q => hf b p (Nat.lt_of_lt_of_le q b2.c)) hs _ fun a' w' σ hst hs' => ?_))
      exact CW.wp (b3 _ σ w' a' (wth_next hw) (hst.frsh hf a2.c) hs' Q (after_trans (a' := a') a2 b2 hQ hst))
    · intro hok
      obtain ⟨a1, a2, n1, a3⟩ := hR _ _ _ _ h1 hok
      exact ⟨a1, a2, 0, fun F ρ w a hw hf hs Q hQ => wp_seq (CW.wp (a3 F ρ w a hw hf hs _ fun a' w' σ hst hs' => then_pass hn (hQ a' w' σ hst hs')))⟩
  | cond x y z =>
    simp only [stepC] at h
    unfold condK at h
    split at h
    · rename_i R' b1 b2 S0 hx
      intro hok
      obtain ⟨a1, a2, n1, a3⟩ := hR _ _ _ _ h hok
      refine ⟨a1, a2, 0, fun F ρ w a hw hf hs Q hQ => ?_⟩
      have := opd_ok (fun g hg => (hs.m.gl g (by rw [← hs.ng]; exact hg)).1) (fun t v _ hv => hs.tm t v hv) _ hx
      simp only [VR] at this
      exact wp_cond (t := true) this (CW.wp (a3 F ρ w a hw hf hs Q hQ))
    · rename_i R' b1 b2 S0 hx
      intro hok
      obtain ⟨a1, a2, n1, a3⟩ := hR _ _ _ _ h hok
      refine ⟨a1, a2, 0, fun F ρ w a hw hf hs Q hQ => ?_⟩
      have := opd_ok (fun g hg => (hs.m.gl g (by rw [← hs.ng]; exact hg)).1) (fun t v _ hv => hs.tm t v hv) _ hx
      simp only [VR] at this
      exact wp_cond (t := false) this (CW.wp (a3 F ρ w a hw hf hs Q hQ))
    · cases h
  | block id x =>
    simp only [stepC] at h
    rcases blockK_inv h with ⟨h1, rfl⟩ | ⟨h1, hn⟩
    · intro hok
      obtain ⟨a1, a2, n1, a3⟩ := hR _ _ _ _ h1 hok
      refine ⟨a1, a2, 0, fun F ρ w a hw hf hs Q hQ => wp_block (CW.wp (a3 F ρ w a hw hf hs _ fun a' w' σ hst hs' => ?_))⟩
      show Exit.inBlock id Q (.exit id) a' w'
      simp only [Exit.inBlock, if_true]
      exact hQ a' w' σ hst hs'
    · intro hok
      obtain ⟨a1, a2, n1, a3⟩ := hR _ _ _ _ h1 hok
      refine ⟨a1, a2, 0, fun F ρ w a hw hf hs Q hQ => wp_block (CW.wp (a3 F ρ w a hw hf hs _ fun a' w' σ hst hs' => ?_))⟩
      have hq := hQ a' w' σ hst hs'
      cases e with
      | normal => exact hq
      | ret => exact hq
      | exit j =>
        show Exit.inBlock id Q (.exit j) a' w'
        simp only [Exit.inBlock]
        rw [if_neg (fun e1 => hn (by rw [e1]))]
        exact hq
  | loop x =>
    simp only [stepC] at h
    rcases seqK_inv h with ⟨S1, h1, h2⟩ | ⟨h1, hn⟩
    · intro hok
      obtain ⟨a1, a2, n1, a3⟩ := hR _ _ _ _ h1 hok
      obtain ⟨b1, b2, n2, b3⟩ := hR _ _ _ _ h2 a1
      refine ⟨b1, a2.trans b2, n2 + 1, fun F ρ w a hw hf hs Q hQ => ?_⟩
      show Code.rounds X.E.P x Q (n2 + 1) a w
      rw [rounds_succ]
      refine CW.wp (a3 F ρ w a (wth_mono hw b2.r b2.w) (fun b p q => hf b p (Nat.lt_of_lt_of_le q b2.c)) hs _ fun a' w' σ hst hs' => ?_)
      exact b3 _ σ w' a' (wth_next hw) (hst.frsh hf a2.c) hs' Q (after_trans (a' := a') a2 b2 hQ hst)
    · intro hok
      obtain ⟨a1, a2, n1, a3⟩ := hR _ _ _ _ h1 hok
      refine ⟨a1, a2, 1, fun F ρ w a hw hf hs Q hQ => ?_⟩
      show Code.rounds X.E.P x Q 1 a w
      rw [rounds_succ]
      exact CW.wp (a3 F ρ w a hw hf hs _ fun a' w' σ hst hs' => then_pass hn (hQ a' w' σ hst hs'))
  | region id ops draw =>
    cases draw with
    | false =>
      simp only [stepC] at h
      cases hl : evList ops.toList X.E C ops S with
      | none => rw [hl] at h; cases h
      | some S1 =>
        rw [hl] at h
        simp only [normS, Option.some.injEq, Prod.mk.injEq] at h
        obtain ⟨rfl, rfl⟩ := h
        intro hok
        obtain ⟨a1, a2, _⟩ := evList_ok (X := X) hC ops (fun _ _ _ => True) hl hok
        exact ⟨a1, a2, 0, fun F ρ w a hw hf hs Q hQ => wp_region_list ((evList_ok hC ops Q hl hok).2.2 F ρ w a hw hf hs hQ)⟩
    | true =>
      simp only [stepC] at h
      cases hreg : regOk ops 0 ops.toList (befs ops.toList []) with
      | false => rw [hreg] at h; cases h
      | true =>
        rw [hreg] at h
        simp only [drawB] at h
        cases hl : evDraw ops.toList (befs ops.toList []) X.E C ops [] S with
        | none => rw [hl] at h; cases h
        | some S1 =>
          rw [hl] at h
          simp only [normS, Option.some.injEq, Prod.mk.injEq] at h
          obtain ⟨rfl, rfl⟩ := h
          intro hok
          obtain ⟨a1, a2, _⟩ := evDraw_ok (X := X) hC hreg hl (fun _ _ _ => True) hok
          refine ⟨a1, a2, 0, fun F ρ w a hw hf hs Q hQ => wp_region_any hm ?_⟩
          have hal : Alike w { w with drawn := w.drawn + 1 } := ⟨rfl, rfl, rfl⟩
          have hs' : SR X F ρ S a { w with drawn := w.drawn + 1 } := ⟨hs.sz, hs.tm, hs.df, hs.ng, mr_same hs.m rfl hal⟩
          refine (evDraw_ok hC hreg hl Q hok).2.2 F ρ _ a hw hf hs' fun a' w' σ hst hs'' => hQ a' w' σ ?_ hs''
          exact (stp_same (w := w) (ρ := ρ) (m := S1.w) (c := S.c) (H := S1.H) (w' := { w with drawn := w.drawn + 1 }) rfl hal).weak (fun _ h => h) (Nat.le_refl _) a2.c (fun _ _ h => h) |>.join hst
  | _ => simp [stepC] at h
end
end Go.Proofs.YtndpcphmndfajaaGreatDoor

namespace Go.Proofs.YtndpcphmndfajaaGreatDoor
open Go.RowKit
set_option linter.unusedVariables false
set_option linter.unusedSimpArgs false

section
variable {X : Cx}

/-- A load reads and no more. -/
theorem evLoad_run {S S' : St} {t : TypeId} {a v : SV} (h : evLoad a X.E.P S t = some (v, S')) : ∃ b c, S' = S.saw b ∧ S.H.get b = some c ∧
    ∀ F ρ w u, F b → MR X F ρ S.H w → VR ρ a u → ∃ q ad, u = .pointer (some ad) ∧ (loadVar t ad).run X.E.P w = .ok q w ∧ VR ρ v q := by
  obtain ⟨b, o, rfl, g⟩ := evLoad_inv h
  clear h
  have base : ∀ (F : Nat → Prop) (ρ : Ren) (w : World) (u : Value) (x : LB), S.H.get b = some x → F b → MR X F ρ S.H w → VR ρ (.p b o) u → ∃ m ob, u = .pointer (some ⟨m, o, none⟩) ∧ w.heap[m]? = some ob ∧ BR ρ x ob := by
    intro F ρ w u x hb hF hm hu
    simp only [VR] at hu
    obtain ⟨m, hr, rfl⟩ := hu
    obtain ⟨m', ob, h1, h2, h3⟩ := hm.hp b x hF hb
    have hd : ¬ρ.d b := fun e => by rw [hm.dd b hF e] at hb; cases hb
    obtain rfl := hm.fn b m m' hd hr h1
    exact ⟨m, ob, rfl, h2, h3⟩
  cases hag : aggT X.E.P t with
  | none => rw [hag] at g; cases g
  | some ag =>
    rw [hag] at g
    cases ag with
    | true =>
      simp only [loadK] at g
      cases hs : sizeT X.E.P t with
      | none => rw [hs] at g; cases g
      | some k =>
        rw [hs] at g
        simp only [loadA] at g
        cases hr : rdCells S b o k with
        | none => rw [hr] at g; cases g
        | some l =>
          rw [hr] at g
          simp only [aggR, Option.some.injEq, Prod.mk.injEq] at g
          obtain ⟨rfl, rfl⟩ := g
          obtain ⟨c, e, hb, hk, rfl⟩ := rdCells_inv hr
          refine ⟨b, _, rfl, hb, fun F ρ w u hF hm hu => ?_⟩
          obtain ⟨m, ob, rfl, hw, hB⟩ := base F ρ w u _ hb hF hm hu
          obtain ⟨us, h1, h2⟩ := rd_run (P := X.E.P) hk hw hB
          refine ⟨.agg us.toArray, _, rfl, ?_, by simp only [VR]; exact ⟨us, h2, rfl⟩⟩
          simp only [loadVar, Sem.run_bind, run_agg hag, Result.andThen_ok, if_true, run_size hs, h1, Sem.run_pure]
    | false =>
      simp only [loadK] at g
      cases hr : rdCells S b o 1 with
      | none => rw [hr] at g; cases g
      | some l =>
        rw [hr] at g
        obtain ⟨c, e, hb, hk, rfl⟩ := rdCells_inv hr
        have hd : (c.drop o).take 1 = [c[o]'(by omega)] := by
          rw [List.drop_eq_getElem_cons (by omega)]
          rfl
        rw [hd] at g
        simp only [oneR, Option.some.injEq, Prod.mk.injEq] at g
        obtain ⟨rfl, rfl⟩ := g
        refine ⟨b, _, rfl, hb, fun F ρ w u hF hm hu => ?_⟩
        obtain ⟨m, ob, rfl, hw, hB⟩ := base F ρ w u _ hb hF hm hu
        obtain ⟨c', bb, e', fz, h1, rfl, h3⟩ := hB
        obtain ⟨u, h4, h5⟩ := h1.get (List.getElem?_eq_getElem (show o < c.length by omega))
        refine ⟨u, _, rfl, ?_, h5⟩
        have hc := cell_in (k := o) hw (v := u) (by rw [List.getElem?_append_left (by rw [h1.len]; omega)]; exact h4)
        simp only [loadVar, Sem.run_bind, run_agg hag, Result.andThen_ok, Bool.false_eq_true, if_false, run_load, hc]

theorem contR_inv {r : Option (SV × St)} {k : St → Option (List SV × St)} {q : List SV × St} (h : contR r k = some q) : ∃ v S1 vs S2, r = some (v, S1) ∧ k S1 = some (vs, S2) ∧ q = (v :: vs, S2) := by
  cases r with
  | none => cases h
  | some p =>
    obtain ⟨v, S1⟩ := p
    simp only [contR] at h
    cases hk : k S1 with
    | none => rw [hk] at h; cases h
    | some p2 =>
      obtain ⟨vs, S2⟩ := p2
      rw [hk] at h
      simp only [Option.some.injEq] at h
      exact ⟨v, S1, vs, S2, rfl, hk, h.symm⟩
def resF (tmps : Array Value) : ResultVar → Sem Value
  | .tmp t => pure (tmps.getD t undef)
  | .cell c t => do loadVar t (← asAddr (tmps.getD c undef))
theorem results_eq (fn : Func) (tmps : Array Value) : results fn tmps = (do
    let vs ← fn.results.mapM (resF tmps)
    pure (if h : vs.size = 1 then vs[0] else .tuple vs)) := by
  unfold results
  congr 1
theorem evRes_ok : ∀ {l : List ResultVar} {S S' : St} {vs : List SV}, evRes l X.E.P S = some (vs, S') → OkE S →
    Ext S S' ∧ S'.H = S.H ∧ S'.c = S.c ∧ S'.w = S.w ∧ ∀ F ρ w a, Wth F S S' → SR X F ρ S a w → ∃ us, (l.mapM (resF a.tmps)).run X.E.P w = .ok us w ∧ VRs ρ vs us
  | [], S, S', vs, h, hok => by
    simp only [evRes, Option.some.injEq, Prod.mk.injEq] at h
    obtain ⟨rfl, rfl⟩ := h
    exact ⟨.refl _, rfl, rfl, rfl, fun F ρ w a _ _ => ⟨[], by simp, vrs_nil.2 rfl⟩⟩
  | .tmp t :: l, S, S', vs, h, hok => by
    simp only [evRes] at h
    obtain ⟨v, S1, us, S2, h1, h2, h3⟩ := contR_inv h
    simp only [Prod.mk.injEq] at h3
    obtain ⟨rfl, rfl⟩ := h3
    obtain ⟨hv, rfl⟩ := pairS_inv h1
    obtain ⟨g1, g2, g3, g4, g5⟩ := evRes_ok h2 hok
    refine ⟨g1, g2, g3, g4, fun F ρ w a hw hs => ?_⟩
    obtain ⟨r, q1, q2⟩ := g5 F ρ w a hw hs
    refine ⟨a.tmps.getD t undef :: r, ?_, vrs_cons.2 ⟨hs.tm t v hv, q2⟩⟩
    simp only [List.mapM_cons, resF, Sem.run_bind, Sem.run_pure, Result.andThen_ok, q1]
  | .cell c t :: l, S, S', vs, h, hok => by
    simp only [evRes] at h
    obtain ⟨v, S1, us, S2, h1, h2, h3⟩ := contR_inv h
    simp only [Prod.mk.injEq] at h3
    obtain ⟨rfl, rfl⟩ := h3
    obtain ⟨x, hx, h1⟩ := loadO_inv h1
    obtain ⟨b, cc, rfl, hb, hrun⟩ := evLoad_run h1
    obtain ⟨g1, g2, g3, g4, g5⟩ := evRes_ok h2 hok
    refine ⟨(ext_saw S b).trans g1, g2, g3, g4, fun F ρ w a hw hs => ?_⟩
    have hF : F b := hw b (hok b cc hb) (.inl (g1.r b (by show (Nat.lor S.r (Nat.shiftLeft 1 b)).testBit b = true; rw [bit_lor]; simp)))
    obtain ⟨q, ad, e1, e2, e3⟩ := hrun F ρ w _ hF hs.m (hs.tm c x hx)
    obtain ⟨r, q1, q2⟩ := g5 F ρ w a hw ⟨hs.sz, hs.tm, hs.df, hs.ng, hs.m⟩
    refine ⟨q :: r, ?_, vrs_cons.2 ⟨e3, q2⟩⟩
    have hasa : (asAddr (a.tmps.getD c undef)).run X.E.P w = .ok ad w := by rw [e1]; rfl
    have hone : (resF a.tmps (.cell c t)).run X.E.P w = .ok q w := by simp only [resF, Sem.run_bind, hasa, Result.andThen_ok, e2]
    simp only [List.mapM_cons, Sem.run_bind, hone, Sem.run_pure, Result.andThen_ok, q1]
theorem one_vr {ρ : Ren} {vs : List SV} {us : List Value} (h : VRs ρ vs us) : VR ρ (one? vs) (if h : us.toArray.size = 1 then us.toArray[0] else .tuple us.toArray) := by
  have hl := h.len
  cases vs with
  | nil =>
    rw [vrs_nil] at h
    subst h
    simp only [one?, VR]
    exact ⟨[], vrs_nil.2 rfl, by simp⟩
  | cons x l =>
    cases us with
    | nil => simp at hl
    | cons u r =>
      rw [vrs_cons] at h
      cases l with
      | nil =>
        have := vrs_nil.1 h.2
        subst this
        simp only [one?]
        exact h.1
      | cons y l =>
        have : ¬ (u :: r).toArray.size = 1 := fun e => by
          simp only [List.size_toArray, List.length_cons] at e hl
          omega
        rw [dif_neg this]
        simp only [one?, VR]
        exact ⟨_, vrs_cons.2 h, rfl⟩

theorem initT_get : ∀ (l : List SV) (i : Nat) (t : TR SV) (k : Nat), (initT l i t).get k = if i ≤ k ∧ k < i + l.length then l[k - i]? else t.get k
  | [], i, t, k => by
    simp only [initT, List.length_nil]
    rw [if_neg (by omega)]
  | v :: l, i, t, k => by
    simp only [initT]
    rw [initT_get l (i + 1), tr_get_set _ _ _ _ _ (Nat.lt_succ_self _)]
    have hl : (v :: l).length = l.length + 1 := rfl
    by_cases h1 : k = i
    · have c1 : ¬ (i + 1 ≤ k ∧ k < i + 1 + l.length) := by omega
      have c2 : i ≤ k ∧ k < i + (v :: l).length := by omega
      rw [if_neg c1, if_pos h1, if_pos c2, h1]
      simp
    · by_cases h2 : i + 1 ≤ k ∧ k < i + 1 + l.length
      · have c2 : i ≤ k ∧ k < i + (v :: l).length := by omega
        rw [if_pos h2, if_pos c2]
        obtain ⟨q, hq⟩ : ∃ q, k - i = q + 1 := ⟨k - i - 1, by omega⟩
        rw [hq, List.getElem?_cons_succ]
        congr 1
        omega
      · have c2 : ¬ (i ≤ k ∧ k < i + (v :: l).length) := by omega
        rw [if_neg h2, if_neg h1, if_neg c2]

/-- What is known of the program, and of the functions whose answers are told. -/
structure Rules (X : Cx) : Prop where
  mixed : X.E.P.follows .mixedOrders = true
  pure : ∀ f args v, X.E.pure f args = some v → ∀ S, CallSim X f args S S v
  over : ∀ f args S v S', known args X.E f S = some (v, S') → CallSim X f args S S' v
  enter : ∀ f fn c, X.E.P.funcs[f]? = some fn → fn.body = some c → ∀ args w, (callFunc f args).run X.E.P w = .ok (.enter f args) w

theorem exitR_inv {r : Option (Ex × St)} {E : Env} {rs : Array ResultVar} {S : St} {q : SV × St} (h : exitR r E rs S = some q) : ∃ e S1 vs S2, r = some (e, S1) ∧ (e = .normal ∨ e = .ret) ∧ evRes rs.toList E.P S1 = some (vs, S2) ∧ q = (one? vs, ⟨S.T, S.nt, S2.H, S2.c, S2.r, S2.w, S.ng⟩) := by
  cases r with
  | none => cases h
  | some p =>
    obtain ⟨e, S1⟩ := p
    cases e with
    | exit j => cases h
    | normal =>
      simp only [exitR] at h
      cases hr : evRes rs.toList E.P S1 with
      | none => rw [hr] at h; cases h
      | some p2 =>
        obtain ⟨vs, S2⟩ := p2
        rw [hr] at h
        simp only [finK, Option.some.injEq] at h
        exact ⟨_, S1, vs, S2, rfl, .inl rfl, hr, h.symm⟩
    | ret =>
      simp only [exitR] at h
      cases hr : evRes rs.toList E.P S1 with
      | none => rw [hr] at h; cases h
      | some p2 =>
        obtain ⟨vs, S2⟩ := p2
        rw [hr] at h
        simp only [finK, Option.some.injEq] at h
        exact ⟨_, S1, vs, S2, rfl, .inr rfl, hr, h.symm⟩

/-- A call of a function with a body. -/
theorem body_ok {R : CodeF} (hR : RSim X R) {f : FuncId} {args : List SV} {S S' : St} {v : SV} (h : funcK X.E.P.funcs[f]? X.E R args S = some (v, S')) :
    ∃ fn c, X.E.P.funcs[f]? = some fn ∧ fn.body = some c ∧ (OkE S → OkE S' ∧ Ext S S' ∧ (∀ F ρ w us, Wth F S S' → Frsh ρ S.c S'.c → MR X F ρ S.H w → VRs ρ args us → ∀ k : Value → World → Prop, Post X F S S' v ρ w k →
      Calls X.E.P f us.toArray w (fun e w' => ∃ u, e = .returned u ∧ k u w'))) := by
  cases hf : X.E.P.funcs[f]? with
  | none => rw [hf] at h; cases h
  | some fn =>
    rw [hf] at h
    simp only [funcK] at h
    cases hb : fn.body with
    | none => rw [hb] at h; cases h
    | some c =>
      rw [hb] at h
      refine ⟨fn, c, rfl, hb, ?_⟩
      simp only [bodyK] at h
      cases hn : Nat.ble args.length fn.ntmps with
      | false => rw [hn] at h; cases h
      | true =>
        rw [hn] at h
        have hn := Nat.le_of_ble_eq_true hn
        obtain ⟨e, S1, vs, S2, h1, h2, h3, h4⟩ := exitR_inv h
        simp only [Prod.mk.injEq] at h4
        obtain ⟨rfl, rfl⟩ := h4
        intro hok
        obtain ⟨a1, a2, n, a3⟩ := hR _ _ _ _ h1 (show OkE ⟨initT args 0 .e, fn.ntmps, S.H, S.c, S.r, S.w, X.E.ng⟩ from hok)
        obtain ⟨b1, b2, b3, b4, b5⟩ := evRes_ok (X := X) h3 a1
        refine ⟨fun b x hx => ?_, ⟨?_, ?_, ?_, ?_, ?_, rfl, rfl, rfl⟩, fun F ρ w us hw hfr hm hus k hp => ?_⟩
        · have hx : S2.H.get b = some x := hx
          rw [b2] at hx
          show b < S2.c
          rw [b3]; exact a1 b x hx
        · show S.c ≤ S2.c
          rw [b3]; exact a2.c
        · exact fun b hb => b1.r b (a2.r b hb)
        · exact fun b hb => b1.w b (a2.w b hb)
        · intro b hb hw
          show S2.H.get b = S.H.get b
          rw [b2]
          exact a2.h b hb (by rw [← b4]; exact hw)
        · intro b hb hn
          show S2.H.get b = none
          rw [b2]
          exact a2.n b hb hn
        · have hlen := hus.len
          have hsr : SR X F ρ ⟨initT args 0 .e, fn.ntmps, S.H, S.c, S.r, S.w, X.E.ng⟩ { tmps := us.toArray ++ Array.replicate (fn.ntmps - us.toArray.size) undef, defers := [] } w := by
            refine ⟨by simp; omega, fun t v hv => ?_, rfl, rfl, hm⟩
            have hv : (initT args 0 .e).get t = some v := hv
            rw [initT_get] at hv
            split at hv
            · simp only [Nat.sub_zero] at hv
              obtain ⟨u, q1, q2⟩ := hus.get hv
              have hlt : t < us.length := (List.getElem?_eq_some_iff.1 q1).1
              have : (us.toArray ++ Array.replicate (fn.ntmps - us.toArray.size) undef).getD t undef = u := by
                rw [Array.getD_eq_getD_getElem?, Array.getElem?_append_left (by simpa using hlt)]
                simp [q1]
              rw [this]
              exact q2
            · rw [tr_get_e] at hv; cases hv
          refine calls_of_wp hf hb (CW.wp (a3 F ρ w _ ?_ ?_ hsr _ fun a' w' σ hst hs' => ?_))
          · exact wth_mono (S := S) hw b1.r b1.w
          · rw [← b3]; exact hfr
          · have hw1 : Wth (FN F S.c S1.c) S1 S2 := wth_next (S := S) hw
            obtain ⟨rv, q1, q2⟩ := b5 _ σ w' a' hw1 hs'
            have hres : (results fn a'.tmps).run X.E.P w' = .ok (if h : rv.toArray.size = 1 then rv.toArray[0] else .tuple rv.toArray) w' := by
              rw [results_eq]
              simp only [Sem.run_bind, Array.mapM_eq_mapM_toList, Sem.run_map, q1, Result.andThen_ok, Sem.run_pure]
            have hk := hp _ w' σ (one_vr q2) (by
              show Stp S2.w S.c S2.c S2.H ρ σ w w'
              rw [b2, b3, b4]; exact hst) (by
              show MR X (FN F S.c S2.c) σ S2.H w'
              rw [b2, b3]; exact hs'.m)
            rcases h2 with rfl | rfl
            · exact ⟨hs'.df, _, hres, _, rfl, hk⟩
            · exact ⟨hs'.df, _, hres, _, rfl, hk⟩
end
end Go.Proofs.YtndpcphmndfajaaGreatDoor

namespace Go.Proofs.YtndpcphmndfajaaGreatDoor
open Go.RowKit
set_option linter.unusedVariables false
set_option linter.unusedSimpArgs false

section
variable {X : Cx}

theorem evCall_ok (hx : Rules X) {R : CodeF} (hR : RSim X R) : CallsSim X (evCall X.E R) := by
  intro f args S v S' h
  unfold evCall at h
  cases hp : X.E.pure f args with
  | some v' =>
    rw [hp] at h
    simp only [pureK, Option.some.injEq, Prod.mk.injEq] at h
    obtain ⟨rfl, rfl⟩ := h
    exact hx.pure f args _ hp S
  | none =>
    rw [hp] at h
    simp only [pureK] at h
    cases hk : known args X.E f S with
    | some r =>
      rw [hk] at h
      simp only [knownK, Option.some.injEq] at h
      subst h
      exact hx.over f args S v S' hk
    | none =>
      rw [hk] at h
      simp only [knownK] at h
      obtain ⟨fn, c, hf, hb, hbody⟩ := body_ok hR h
      intro hok
      obtain ⟨a1, a2, a3⟩ := hbody hok
      refine ⟨a1, a2, fun F ρ w us hw hfr hm hus o a K Q hpost => ?_⟩
      rw [hx.enter f fn c hf hb]
      rw [Oper.upon_enter]
      exact (a3 F ρ w us hw hfr hm hus _ hpost).mono (by rintro e w' ⟨u, rfl, hk⟩; exact hk)
theorem ev_ok (hx : Rules X) : ∀ n, RSim X (ev X.E n)
  | 0 => fun c S e S' h => by cases h
  | n + 1 => stepC_ok hx.mixed (evCall_ok hx (ev_ok hx n)) (ev_ok hx n)

/-! ### Values without names -/
mutual
def gr : SV → Bool
  | .p _ _ | .sl _ _ _ _ | .m _ => false
  | .f _ x y => grs x && grs y
  | .agg l => grs l
  | .tup l => grs l
  | _ => true
def grs : List SV → Bool
  | [] => true
  | x :: l => gr x && grs l
end
mutual
theorem VR.gr {ρ σ : Ren} : ∀ {x : SV} {v : Value}, gr x = true → VR ρ x v → VR σ x v
  | .ju, _, _, k | .und, _, _, k | .b _, _, _, k | .i _ _, _, _, k | .s _, _, _, k | .np, _, _, k | .ns, _, _, k | .nm, _, _, k | .nf, _, _, k | .sz _, _, _, k => by simpa only [VR] using k
  | .p b o, _, g, _ => by simp [Go.Proofs.YtndpcphmndfajaaGreatDoor.gr] at g
  | .sl b o n c, _, g, _ => by simp [Go.Proofs.YtndpcphmndfajaaGreatDoor.gr] at g
  | .m b, _, g, _ => by simp [Go.Proofs.YtndpcphmndfajaaGreatDoor.gr] at g
  | .f f x y, _, g, k => by
    simp only [Go.Proofs.YtndpcphmndfajaaGreatDoor.gr, Bool.and_eq_true] at g
    simp only [VR] at k ⊢; obtain ⟨a, b, h1, h2, h3⟩ := k; exact ⟨a, b, VRs.gr g.1 h1, VRs.gr g.2 h2, h3⟩
  | .agg l, _, g, k => by
    simp only [Go.Proofs.YtndpcphmndfajaaGreatDoor.gr] at g
    simp only [VR] at k ⊢; obtain ⟨a, h1, h2⟩ := k; exact ⟨a, VRs.gr g h1, h2⟩
  | .tup l, _, g, k => by
    simp only [Go.Proofs.YtndpcphmndfajaaGreatDoor.gr] at g
    simp only [VR] at k ⊢; obtain ⟨a, h1, h2⟩ := k; exact ⟨a, VRs.gr g h1, h2⟩
theorem VRs.gr {ρ σ : Ren} : ∀ {x : List SV} {v : List Value}, grs x = true → VRs ρ x v → VRs σ x v
  | [], _, _, k => by simpa only [VRs] using k
  | x :: l, _, g, k => by
    simp only [grs, Bool.and_eq_true] at g
    simp only [VRs] at k ⊢; obtain ⟨v, r, h1, h2, h3⟩ := k; exact ⟨v, r, h1, VR.gr g.1 h2, VRs.gr g.2 h3⟩
end

/-- The package's variables as they lie in the world. -/
def ren0 (ng : Nat) : Ren := ⟨fun b n => b = n ∧ b < ng, fun _ => False, fun _ _ => False⟩
structure Laid (X : Cx) (G : TR LB) : Prop where
  ng : X.E.ng ≤ X.w0.heap.size
  at' : ∀ b x, G.get b = some x → b < X.E.ng ∧ ∃ o, X.w0.heap[b]? = some o ∧ BR (ren0 X.E.ng) x o
theorem mr_start {X : Cx} {G : TR LB} (h : Laid X G) {w : World} (hw : Below X.w0.heap.size X.w0 w) : MR ⟨X.E, w⟩ (fun _ => True) (ren0 X.E.ng) G w where
  hp b x _ hx := by
    obtain ⟨h1, o, h2, h3⟩ := h.at' b x hx
    exact ⟨b, o, ⟨rfl, h1⟩, by rw [hw.block b (Array.getElem?_eq_some_iff.1 h2).1]; exact h2, h3⟩
  dd b _ hd := hd.elim
  fn b n m _ h1 h2 := h1.1.symm.trans h2.1
  ij b c n _ _ h1 h2 := h1.1.trans h2.1.symm
  rg b n _ h1 := by
    have := hw.size
    have := h.ng
    have := h1.1
    have := h1.2
    omega
  lo b n _ h1 hng := absurd h1.2 (by show ¬ b < X.E.ng; have : X.E.ng ≤ b := hng; omega)
  gl g hg := ⟨⟨rfl, hg⟩, fun h => h⟩
  cp b n l e k z _ _ _ hq := hq.elim
  bl := Below.refl _ _

/-- A call's contract: an answer without names; nothing old turns. -/
def Tells (X : Cx) (f : FuncId) (args : List SV) (v : SV) : Prop :=
  ∀ w, Below X.w0.heap.size X.w0 w → ∀ us, VRs (ren0 0) args us → Calls X.E.P f us.toArray w (fun e w' => ∃ u, e = .returned u ∧ VR (ren0 0) v u ∧ Below w.heap.size w w')

/-- What is told of a call's answer serves in the evaluator. -/
theorem mr_below {F : Nat → Prop} {ρ : Ren} {H : TR LB} {w w' : World} (h : MR X F ρ H w) (hb : Below w.heap.size w w') : MR X F ρ H w' where
  hp b x hF hx := by
    obtain ⟨n, o, h1, h2, h3⟩ := h.hp b x hF hx
    exact ⟨n, o, h1, by rw [hb.block n (Array.getElem?_eq_some_iff.1 h2).1]; exact h2, h3⟩
  dd := h.dd
  fn := h.fn
  ij := h.ij
  rg b n hd hr := Nat.lt_of_lt_of_le (h.rg b n hd hr) hb.size
  lo := h.lo
  gl := h.gl
  cp b n l e k z hF hg hr hq hz := by
    obtain ⟨c, e', fz, h1, h2⟩ := h.cp b n l e k z hF hg hr hq hz
    exact ⟨c, e', fz, by rw [hb.block n (Array.getElem?_eq_some_iff.1 h1).1]; exact h1, h2⟩
  bl := h.bl.trans (hb.mono h.bl.size)
theorem stp_below {m c : Nat} {H : TR LB} {ρ : Ren} {w w' : World} (hb : Below w.heap.size w w') : Stp m c c H ρ ρ w w' where
  le := .refl _
  nr := fun _ _ h _ => .inl h
  nd := fun _ h => .inl h
  nq := fun _ _ h => .inl h
  sz := hb.size
  un := fun n hn _ => hb.block n hn
  st := ⟨hb.os, hb.tape, hb.output⟩
theorem callsim_of_tells {f : FuncId} {args : List SV} {v : SV} (hg : grs args = true) (hgv : gr v = true) (h : Tells X f args v) (he : ∀ us w, (callFunc f us).run X.E.P w = .ok (.enter f us) w) (S : St) : CallSim X f args S S v := fun hok =>
  ⟨hok, .refl _, fun F ρ w us hw hf hm hus o a K Q hp => by
    rw [he, Oper.upon_enter]
    refine (h w hm.bl us (hus.gr hg)).mono ?_
    rintro e w' ⟨u, rfl, hu, hb⟩
    exact hp u w' ρ (hu.gr hgv) (stp_below hb) ((mr_below hm hb).sub FN.same)⟩

theorem rules_of {X : Cx} (hx : ∀ w, Below X.w0.heap.size X.w0 w → Rules ⟨X.E, w⟩) {G : TR LB} (hG : Laid X G) {n : Nat} {f : FuncId} {args : List SV} {v : SV} (hg : grs args = true) (hgv : gr v = true) (h : evTop X.E n G f args = some v) : Tells X f args v := by
  intro w hw us hus
  unfold evTop at h
  cases hr : funcK X.E.P.funcs[f]? X.E (ev X.E n) args ⟨.e, 0, G, X.E.ng, 0, 0, X.E.ng⟩ with
  | none => rw [hr] at h; cases h
  | some q =>
    obtain ⟨v', S'⟩ := q
    rw [hr] at h
    simp only [Option.some.injEq] at h
    subst h
    obtain ⟨fn, c, hf, hb, hbody⟩ := body_ok (X := ⟨X.E, w⟩) (ev_ok (hx w hw) n) hr
    obtain ⟨a1, a2, a3⟩ := hbody (fun b x hx => (hG.at' b x hx).1)
    refine (a3 (fun _ => True) (ren0 X.E.ng) w us (fun _ _ _ => trivial) (fun b h1 h2 => ⟨fun h => h, fun n => ⟨fun e => ?_, fun e => e⟩⟩) (mr_start hG hw) (hus.gr hg) (fun u w' => VR (ren0 0) v' u ∧ Below w.heap.size w w') (fun u w' σ hu hst hm => ⟨hu.gr hgv, hm.bl⟩)).mono ?_
    · have := e.2
      have h1 : X.E.ng ≤ b := h1
      omega
    · rintro e w' ⟨u, h1, h2, h3⟩
      exact ⟨u, h1, h2, h3⟩
end
end Go.Proofs.YtndpcphmndfajaaGreatDoor
