/- The evaluator: slices, fields, places, what is built. | The evaluator: what a step does to memory. -/
import Derived.Test.YtndpcphmndfajaaGreatDoorZEv2
import Derived.Laws.Cells
import Derived.Laws.IdiomCopy

namespace Go.Proofs.YtndpcphmndfajaaGreatDoor
open Go.RowKit
set_option linter.unusedVariables false
set_option linter.unusedSimpArgs false

section
variable {P : Program} {w : World} {ρ : Ren}

theorem blt_t {a b : Nat} (h : Nat.blt a b = true) : a < b := by rw [Nat.blt_eq] at h; exact h
theorem blt_f {a b : Nat} (h : Nat.blt a b = false) : ¬ a < b := fun e => by
  rw [← Nat.blt_eq] at e
  rw [e] at h
  cases h

theorem evUn_ok {op : UnOp} {x v : SV} {a : Value} (h : evUn op x = some v) (hx : VR ρ x a) : ∃ u, (Op.unary op a).run P w = .ok u w ∧ VR ρ v u := by
  unfold evUn at h
  split at h
  · rename_i k n
    simp only [VR] at hx
    subst hx
    obtain ⟨u, h1, h2⟩ := evInt_ok (P := P) (w := w) (ρ := ρ) 0 (by decide) h
    exact ⟨u, by simpa [binOp, Op.unary] using h1, h2⟩
  · rename_i k n
    simp only [VR] at hx
    subst hx
    obtain ⟨u, h1, h2⟩ := evInt_ok (P := P) (w := w) (ρ := ρ) 0 (by decide) h
    exact ⟨u, by simpa [binOp, Op.unary] using h1, h2⟩
  · simp only [VR] at hx
    subst hx
    simp only [Option.some.injEq] at h
    subst h
    exact ⟨_, rfl, by simp only [VR]⟩
  · cases h

def OV (ρ : Ren) : Option SV → Option Value → Prop
  | none, v => v = none
  | some x, v => ∃ u, v = some u ∧ VR ρ x u

theorem sb_ok {k : IntKind} {n y : Nat} {v : Value} {c : BoundsCode} (hv : VR ρ (.i k (.ofNat n)) v) (h : n ≤ y) : (Instr.sliceBound v y c).run P w = .ok n w := by
  simp only [VR] at hv
  subst hv
  have h1 : (0 : Int) ≤ Int.ofNat n ∧ Int.ofNat n ≤ (y : Int) := ⟨by simp, by simpa using h⟩
  simp only [Instr.sliceBound, asIntOf, Sem.run_bind, Sem.run_pure, Result.andThen_ok, h1, and_self, if_true]
  rfl
theorem bound_some {x : SV} {d hi n : Nat} (h : bound (some x) d hi = some n) : ∃ k, x = .i k (.ofNat n) ∧ n ≤ hi := by
  unfold bound at h
  split at h
  · rename_i e; cases e
  · rename_i k m e
    split at h
    · rename_i hb
      simp only [Option.some.injEq] at h e
      subst h
      exact ⟨k, e, Nat.le_of_ble_eq_true hb⟩
    · cases h
  · cases h
theorem bound_none {d hi n : Nat} (h : bound none d hi = some n) : n = d := by simp only [bound, Option.some.injEq] at h; exact h.symm

theorem low_ok {lo : Option SV} {lv : Option Value} {h k : Nat} {β : Type} (hl : OV ρ lo lv) (hk : bound lo 0 h = some k) (c : BoundsCode) (f : Nat → Sem β) :
    (match lv with | some v => do let l ← Instr.sliceBound v h c; f l | none => do let l ← pure 0; f l).run P w = (f k).run P w := by
  cases lo with
  | none => simp only [OV] at hl; subst hl; rw [bound_none hk]; rfl
  | some x =>
    obtain ⟨u, rfl, hu⟩ := hl
    obtain ⟨q, rfl, hq⟩ := bound_some hk
    simp only [Sem.run_bind, sb_ok hu hq, Result.andThen_ok]
theorem sbs_ok {b : Bool} {len cap cap' : Nat} {lo hi : Option SV} {lv hv : Option Value} {h k : Nat} (hcap : cap' ≤ cap) (hh : bound hi len cap' = some h) (hk : bound lo 0 h = some k)
    (hl : OV ρ lo lv) (hr : OV ρ hi hv) : (Instr.sliceBounds b len cap lv hv none).run P w = .ok (k, h, cap) w := by
  cases hi with
  | none =>
    simp only [OV] at hr; subst hr
    obtain rfl := bound_none hh
    simp only [Instr.sliceBounds, Sem.run_bind, Sem.run_pure, Result.andThen_ok]
    exact low_ok hl hk _ (fun l => pure (l, h, cap))
  | some x =>
    obtain ⟨u, rfl, hu⟩ := hr
    obtain ⟨q, rfl, hq⟩ := bound_some hh
    simp only [Instr.sliceBounds, Sem.run_bind, Sem.run_pure, Result.andThen_ok]
    rw [sb_ok hu (by omega)]
    simp only [Result.andThen_ok]
    exact low_ok hl hk _ (fun l => pure (l, h, cap))
theorem sbm_ok {b : Bool} {len cap cap' : Nat} {lo : Option SV} {mx hi : SV} {lv hv mv : Option Value} {h k m : Nat} (hcap : cap' ≤ cap) (hm : bound (some mx) 0 cap' = some m) (hh : bound (some hi) len m = some h) (hk : bound lo 0 h = some k)
    (hl : OV ρ lo lv) (hr : OV ρ (some hi) hv) (hx : OV ρ (some mx) mv) : (Instr.sliceBounds b len cap lv hv mv).run P w = .ok (k, h, m) w := by
  obtain ⟨u, rfl, hu⟩ := hr
  obtain ⟨q, rfl, hq⟩ := bound_some hh
  obtain ⟨u', rfl, hu'⟩ := hx
  obtain ⟨q', rfl, hq'⟩ := bound_some hm
  simp only [Instr.sliceBounds, Sem.run_bind, Sem.run_pure, Result.andThen_ok]
  rw [sb_ok hu' (by omega)]
  simp only [Result.andThen_ok]
  rw [sb_ok hu hq]
  simp only [Result.andThen_ok]
  exact low_ok hl hk _ (fun l => pure (l, h, m))

theorem addr_add (m o k : Nat) : (Addr.add ⟨m, o, none⟩ k) = ⟨m, o + k, none⟩ := by
  unfold Addr.add
  split
  · rename_i h; subst h; rfl
  · rfl
theorem bs_extract (l : List Nat) (k h : Nat) : (bs l).extract k h = bs ((l.drop k).take (h - k)) := by
  apply ba_ext
  rw [bs_data]
  simp [bs, List.map_take, List.map_drop]
theorem elemT_und {t e : TypeId} {z : Nat} (h : elemT P t = some (e, z)) : P.underlying t = some (.slice e) ∧ sizeT P e = some z := by
  unfold elemT at h
  split at h
  · rename_i e' he
    cases hz : sizeT P e' with
    | none => rw [hz] at h; cases h
    | some n =>
      rw [hz] at h
      simp only [Option.map_some, Option.some.injEq, Prod.mk.injEq] at h
      obtain ⟨rfl, rfl⟩ := h
      exact ⟨he, hz⟩
  · cases h

theorem evSlice_ok {t : TypeId} {x v : SV} {lo hi mx : Option SV} {a : Value} {lv hv mv : Option Value} (h : evSlice P t x lo hi mx = some v) (hx : VR ρ x a)
    (hl : OV ρ lo lv) (hr : OV ρ hi hv) (hm : OV ρ mx mv) : ∃ u, (Instr.sliceAt t a lv hv mv).run P w = .ok u w ∧ VR ρ v u := by
  unfold evSlice at h
  split at h
  · rename_i l
    simp only [VR] at hx
    obtain ⟨rfl, hb⟩ := hx
    split at h
    · rename_i ht
      simp only [OV] at hm; subst hm
      split at h
      · rename_i hh hhi
        split at h
        · rename_i k hlo
          simp only [Option.some.injEq] at h
          subst h
          refine ⟨.string ((bs l).extract k hh), ?_, ?_⟩
          · simp only [Instr.sliceAt, Instr.slice, Sem.run_bind, run_und ht, Result.andThen_ok, Option.isSome_none, Bool.false_eq_true, if_false]
            rw [bs_size, sbs_ok (Nat.le_refl _) hhi hlo hl hr]
            rfl
          · simp only [VR]
            exact ⟨by rw [bs_extract], fun x hx => hb x (List.mem_of_mem_drop (List.mem_of_mem_take hx))⟩
        · cases h
      · cases h
    · cases h
  · simp only [VR] at hx
    subst hx
    split at h
    · rename_i e q1 q2 q3 he h1 h2 h3
      obtain ⟨e, z⟩ := e
      obtain ⟨ht, hz⟩ := elemT_und he
      have z1 : q1 = 0 := by
        cases mx with
        | none => exact bound_none h1
        | some y => obtain ⟨_, _, h4⟩ := bound_some h1; omega
      have z2 : q2 = 0 := by
        cases hi with
        | none => exact bound_none h2
        | some y => obtain ⟨_, _, h4⟩ := bound_some h2; omega
      have z3 : q3 = 0 := by
        cases lo with
        | none => exact bound_none h3
        | some y => obtain ⟨_, _, h4⟩ := bound_some h3; omega
      subst z1; subst z2; subst z3
      split at h
      · cases h
      · rename_i hno
        simp only [Option.some.injEq] at h
        subst h
        refine ⟨.slice none 0 0, ?_, by simp only [VR]⟩
        simp only [Instr.sliceAt, Instr.slice, Sem.run_bind, run_und ht, Result.andThen_ok]
        cases mx with
        | none =>
          simp only [OV] at hm; subst hm
          rw [sbs_ok (Nat.le_refl _) h2 h3 hl hr]
          simp [run_size hz]
        | some y =>
          cases hi with
          | none => exact (hno _ rfl rfl).elim
          | some y' =>
            rw [sbm_ok (Nat.le_refl _) h1 h2 h3 hl hr hm]
            simp [run_size hz]
    · cases h
  · rename_i c
    simp only [VR] at hx
    obtain ⟨ad, kk, hc, rfl⟩ := hx
    split at h
    · rename_i e q1 q2 q3 he h1 h2 h3
      obtain ⟨e, z⟩ := e
      obtain ⟨ht, hz⟩ := elemT_und he
      have z1 : q1 = 0 := by
        cases mx with
        | none => exact bound_none h1
        | some y => obtain ⟨_, _, h4⟩ := bound_some h1; omega
      have z2 : q2 = 0 := by
        cases hi with
        | none => exact bound_none h2
        | some y => obtain ⟨_, _, h4⟩ := bound_some h2; omega
      have z3 : q3 = 0 := by
        cases lo with
        | none => exact bound_none h3
        | some y => obtain ⟨_, _, h4⟩ := bound_some h3; omega
      subst z1; subst z2; subst z3
      cases mx with
      | none =>
        simp only [Option.some.injEq] at h
        subst h
        simp only [OV] at hm; subst hm
        simp only [Instr.sliceAt, Instr.slice, Sem.run_bind, run_und ht, Result.andThen_ok]
        rw [sbs_ok (Nat.zero_le _) h2 h3 hl hr]
        simp only [Result.andThen_ok, run_size hz]
        refine ⟨_, rfl, ?_⟩
        simp only [VR]
        refine ⟨ad, kk, hc, ?_⟩
        simp only [Nat.zero_mul, Nat.sub_zero, Option.map_some]
        congr 1
        split <;> rfl
      | some y =>
        cases hi with
        | none => simp at h
        | some y' =>
          simp only [Option.some.injEq] at h
          subst h
          simp only [Instr.sliceAt, Instr.slice, Sem.run_bind, run_und ht, Result.andThen_ok]
          rw [sbm_ok (Nat.zero_le _) h1 h2 h3 hl hr hm]
          simp only [Result.andThen_ok, run_size hz]
          refine ⟨_, rfl, ?_⟩
          simp only [VR]
          refine ⟨ad, 0, fun _ e => by cases e; rfl, ?_⟩
          simp
    · cases h
  · rename_i b o n c
    simp only [VR] at hx
    obtain ⟨m, kk, hr1, hn, hc, hq, rfl⟩ := hx
    have hcd : c.getD n ≤ kk := by
      cases c with
      | none => exact hn
      | some c' => rw [hc c' rfl]; exact Nat.le_refl _
    have hcm : ∀ k c', c.map (· - k) = some c' → kk - k = c' := by
      intro k c' e
      cases c with
      | none => cases e
      | some c'' => rw [hc c'' rfl]; simpa using e
    split at h
    · rename_i e z he
      obtain ⟨ht, hz⟩ := elemT_und he
      split at h
      · simp only [OV] at hm; subst hm
        split at h
        · rename_i hh hhi
          split at h
          · rename_i k hlo
            have hhk : hh ≤ kk := by
              cases hi with
              | none => rw [bound_none hhi]; exact hn
              | some y => obtain ⟨_, _, h4⟩ := bound_some hhi; omega
            have hkh : k ≤ hh := by
              cases lo with
              | none => rw [bound_none hlo]; omega
              | some y => obtain ⟨_, _, h4⟩ := bound_some hlo; exact h4
            have run : (Instr.sliceAt t (.slice (some ⟨m, o, none⟩) n kk) lv hv none).run P w = .ok (.slice (if kk = k then some ⟨m, o, none⟩ else (some ⟨m, o, none⟩ : Option Addr).map (·.add (k * z))) (hh - k) (kk - k)) w := by
              simp only [Instr.sliceAt, Instr.slice, Sem.run_bind, run_und ht, Result.andThen_ok]
              rw [sbs_ok hcd hhi hlo hl hr]
              simp only [Result.andThen_ok, run_size hz]
              rfl
            refine ⟨_, run, ?_⟩
            split at h
            · rename_i hk0
              have hk0 := Nat.eq_of_beq_eq_true hk0
              subst hk0
              simp only [Option.some.injEq] at h
              subst h
              simp only [VR]
              refine ⟨m, kk, hr1, hhk, hc, hq, ?_⟩
              simp only [Nat.zero_mul, Nat.sub_zero, Option.map_some, addr_add, Nat.add_zero, ite_self]
            · split at h
              · rename_i hlt
                have hlt : k < hh := blt_t hlt
                split at h
                · rename_i hz0
                  have hz0 : 0 < k * z := blt_t hz0
                  simp only [Option.some.injEq] at h
                  subst h
                  simp only [VR]
                  refine ⟨m, kk - k, hr1, by omega, hcm k, fun _ e => by omega, ?_⟩
                  rw [if_neg (by omega)]
                  simp only [Option.map_some, addr_add]
                · cases h
              · rename_i hlt
                have hlt : ¬ k < hh := blt_f hlt
                simp only [Option.some.injEq] at h
                subst h
                simp only [VR]
                have : hh - k = 0 := by omega
                rw [this]
                split
                · exact ⟨_, kk - k, hcm k, rfl⟩
                · exact ⟨_, kk - k, hcm k, rfl⟩
          · cases h
        · cases h
      · rename_i y
        split at h
        · rename_i m' y' hmx
          split at h
          · rename_i hh hhi
            split at h
            · rename_i k hlo
              have hhm : hh ≤ m' := by obtain ⟨_, _, h4⟩ := bound_some hhi; exact h4
              have hkh : k ≤ hh := by
                cases lo with
                | none => rw [bound_none hlo]; omega
                | some y => obtain ⟨_, _, h4⟩ := bound_some hlo; exact h4
              have run : (Instr.sliceAt t (.slice (some ⟨m, o, none⟩) n kk) lv hv mv).run P w = .ok (.slice (if m' = k then some ⟨m, o, none⟩ else (some ⟨m, o, none⟩ : Option Addr).map (·.add (k * z))) (hh - k) (m' - k)) w := by
                simp only [Instr.sliceAt, Instr.slice, Sem.run_bind, run_und ht, Result.andThen_ok]
                rw [sbm_ok hcd hmx hhi hlo hl hr hm]
                simp only [Result.andThen_ok, run_size hz]
                rfl
              refine ⟨_, run, ?_⟩
              split at h
              · rename_i hlt
                have hlt : k < hh := blt_t hlt
                simp only [Option.some.injEq] at h
                subst h
                simp only [VR]
                refine ⟨m, m' - k, hr1, by omega, fun _ e => by cases e; rfl, (fun e => by cases e), ?_⟩
                rw [if_neg (by omega)]
                simp only [Option.map_some, addr_add]
              · rename_i hlt
                have hlt : ¬ k < hh := blt_f hlt
                simp only [Option.some.injEq] at h
                subst h
                simp only [VR]
                have : hh - k = 0 := by omega
                rw [this]
                split
                · exact ⟨_, m' - k, fun _ e => by cases e; rfl, rfl⟩
                · exact ⟨_, m' - k, fun _ e => by cases e; rfl, rfl⟩
            · cases h
          · cases h
        · cases h
    · cases h
  · rename_i b o
    simp only [VR] at hx
    obtain ⟨m, hr1, rfl⟩ := hx
    split at h
    · rename_i n e ht
      simp only [OV] at hm; subst hm
      split at h
      · rename_i z hz
        split at h
        · rename_i hh hhi
          split at h
          · rename_i k hlo
            split at h
            · rename_i hk0
              have hk0 := Nat.eq_of_beq_eq_true hk0
              subst hk0
              simp only [Option.some.injEq] at h
              subst h
              have hhn : hh ≤ n := by
                cases hi with
                | none => rw [bound_none hhi]; exact Nat.le_refl _
                | some y => obtain ⟨_, _, h4⟩ := bound_some hhi; exact h4
              simp only [Instr.sliceAt, Instr.sureAddr, Sem.run_bind, run_und ht, Result.andThen_ok, Sem.run_pure]
              rw [sbs_ok (Nat.le_refl _) hhi hlo hl hr]
              simp only [Result.andThen_ok, run_size hz]
              refine ⟨_, rfl, ?_⟩
              simp only [VR]
              refine ⟨m, n, hr1, hhn, fun _ e => by cases e; rfl, (fun e => by cases e), ?_⟩
              simp only [Nat.zero_mul, Nat.sub_zero, addr_add, Nat.add_zero, ite_self]
            · cases h
          · cases h
        · cases h
      · cases h
    · cases h
  · cases h

theorem evField_inv {d : Option TypeDesc} {x v : SV} {k : Nat} (h : evField d x P k = some v) : ∃ fs l, d = some (.struct fs) ∧ x = .agg l ∧ fieldK fs[k]? P l = some v := by
  unfold evField at h
  split at h
  · exact ⟨_, _, rfl, rfl, h⟩
  · cases h
theorem evFieldAddr_inv {d : Option TypeDesc} {x v : SV} {k : Nat} (h : evFieldAddr d x P k = some v) : ∃ fs b o, d = some (.struct fs) ∧ x = .p b o ∧ fieldAK fs[k]? P b o = some v := by
  unfold evFieldAddr at h
  split at h
  · exact ⟨_, _, _, rfl, rfl, h⟩
  · cases h
theorem idxAK_inv {d : Option TypeDesc} {x v : SV} {i : Nat} (h : idxAK d x P i = some v) :
    (∃ n e b o, d = some (.array n e) ∧ x = .p b o ∧ idxK (sizeT P e) (Nat.blt i n) b o i = some v) ∨ (∃ e b o n c, d = some (.slice e) ∧ x = .sl b o n c ∧ idxK (sizeT P e) (Nat.blt i n) b o i = some v) := by
  unfold idxAK at h
  split at h
  · exact .inl ⟨_, _, _, _, rfl, rfl, h⟩
  · exact .inr ⟨_, _, _, _, _, rfl, rfl, h⟩
  · cases h
theorem idxB_inv {d : Option TypeDesc} {x v : SV} {i : Nat} (h : idxB d x P i = some v) :
    (∃ n e l, d = some (.array n e) ∧ x = .agg l ∧ idxE (sizeT P e) (Nat.blt i n) P e l i = some v) ∨ (∃ l : List Nat, d = some .string ∧ x = .s l ∧ byteR l[i]? = some v) := by
  unfold idxB at h
  split at h
  · exact .inl ⟨_, _, _, rfl, rfl, h⟩
  · rw [atN_eq] at h; exact .inr ⟨_, rfl, rfl, h⟩
  · cases h
theorem evIndexAddr_inv {i x v : SV} {t : TypeId} (h : evIndexAddr i x P t = some v) : ∃ k n, i = .i k (.ofNat n) ∧ idxAK (P.underlying t) x P n = some v := by
  unfold evIndexAddr at h
  split at h
  · exact ⟨_, _, rfl, h⟩
  · cases h
theorem evIndex_inv {i x v : SV} {t : TypeId} (h : evIndex i x P t = some v) : ∃ k n, i = .i k (.ofNat n) ∧ idxB (P.underlying t) x P n = some v := by
  unfold evIndex at h
  split at h
  · exact ⟨_, _, rfl, h⟩
  · cases h
theorem evMinL_inv {mx : Bool} {k : IntKind} {a : Int} {x v : SV} {l : List SV} (h : evMinL mx k a (x :: l) = some v) :
    ∃ b, x = .i k b ∧ evMinL mx k (if mx then (if b > a then b else a) else (if b < a then b else a)) l = some v := by
  cases x <;> simp only [evMinL, reduceCtorEq] at h
  rename_i k' b
  cases hk : eqK k k' with
  | false => rw [hk] at h; cases h
  | true =>
    rw [hk] at h
    have := eqK_eq hk
    subst this
    refine ⟨b, rfl, ?_⟩
    cases mx with
    | true =>
      simp only [leI_eq] at h
      simp only [if_true]
      by_cases hh : b ≤ a
      · rw [decide_eq_true hh] at h; rw [if_neg (by omega)]; exact h
      · rw [decide_eq_false hh] at h; rw [if_pos (by omega)]; exact h
    | false =>
      simp only [leI_eq] at h
      simp only [Bool.false_eq_true, if_false]
      by_cases hh : a ≤ b
      · rw [decide_eq_true hh] at h; rw [if_neg (by omega)]; exact h
      · rw [decide_eq_false hh] at h; rw [if_pos (by omega)]; exact h

theorem evField_ok {t : TypeId} {x v : SV} {k : Nat} {a : Value} (h : evField (P.underlying t) x P k = some v) (hx : VR ρ x a) : ∃ u, (Instr.field t a k).run P w = .ok u w ∧ VR ρ v u := by
  obtain ⟨fs, l, hd, rfl, g⟩ := evField_inv h
  clear h
  have h := g
  simp only [VR] at hx
  obtain ⟨us, hx, rfl⟩ := hx
  cases hf : fs[k]? with
  | none => rw [hf] at h; cases h
  | some f =>
    rw [hf] at h
    obtain ⟨u, h1, h2⟩ := evPart_ok (w := w) h hx
    refine ⟨u, ?_, h2⟩
    simp only [Instr.field, Sem.run_bind, run_und hd, Result.andThen_ok, hf, asAgg, Sem.run_pure]
    exact h1
theorem evFieldAddr_ok {t : TypeId} {x v : SV} {k : Nat} {a : Value} (h : evFieldAddr (P.underlying t) x P k = some v) (hx : VR ρ x a) : ∃ u, (Instr.fieldAt t a k).run P w = .ok u w ∧ VR ρ v u := by
  obtain ⟨fs, b, o, hd, rfl, g⟩ := evFieldAddr_inv h
  clear h
  have h := g
  simp only [VR] at hx
  obtain ⟨m, hr, rfl⟩ := hx
  cases hf : fs[k]? with
  | none => rw [hf] at h; cases h
  | some f =>
    rw [hf] at h
    simp only [fieldAK] at h
    cases hs : sizeT P f.type with
    | none => rw [hs] at h; cases h
    | some n =>
      rw [hs] at h
      cases n with
      | zero => cases h
      | succ n =>
        simp only [addP, Option.some.injEq] at h
        subst h
        refine ⟨.pointer (some ⟨m, o + f.offset, none⟩), ?_, ?_⟩
        · simp only [Instr.fieldAt, Sem.run_bind, run_und hd, Result.andThen_ok, hf, Instr.sureAddr, Sem.run_pure, fieldPlace, run_size hs, Nat.succ_ne_zero, if_false, addr_add, Nat.add_eq_zero_iff, Nat.one_ne_zero, and_false]
        · simp only [VR]
          exact ⟨m, hr, rfl⟩
theorem lt_int {i n : Nat} (h : i < n) : (0 : Int) ≤ Int.ofNat i ∧ Int.ofNat i < (n : Int) := ⟨by simp, by simpa using h⟩
theorem idxK_inv {q : Option Nat} {r : Bool} {b o i : Nat} {v : SV} (h : idxK q r b o i = some v) : ∃ z, q = some z ∧ r = true ∧ v = .p b (o + i * z) := by
  unfold idxK at h
  split at h
  · simp only [Option.some.injEq] at h
    exact ⟨_, rfl, rfl, h.symm⟩
  · cases h
theorem evIndexAddr_ok {t : TypeId} {x i v : SV} {a j : Value} (h : evIndexAddr i x P t = some v) (hx : VR ρ x a) (hi : VR ρ i j) : ∃ u, (Instr.indexAt t a j).run P w = .ok u w ∧ VR ρ v u := by
  obtain ⟨k, i, rfl, g⟩ := evIndexAddr_inv h
  clear h
  have h := g
  simp only [VR] at hi
  subst hi
  rcases idxAK_inv h with ⟨n, e, b, o, hd, rfl, g2⟩ | ⟨e, b, o, n, c, hd, rfl, g2⟩ <;> clear h <;> have h := g2
  · simp only [VR] at hx
    obtain ⟨m, hr, rfl⟩ := hx
    obtain ⟨z, hs, hb, rfl⟩ := idxK_inv h
    refine ⟨.pointer (some ⟨m, o + i * z, none⟩), ?_, ?_⟩
    · simp only [Instr.indexAt, asIntOf, Sem.run_bind, Sem.run_pure, run_und hd, Result.andThen_ok, Instr.sureAddr]
      rw [if_pos (lt_int (blt_t hb))]
      simp only [Sem.run_bind, run_size hs, Result.andThen_ok, addr_add, Sem.run_pure]
      rfl
    · simp only [VR]
      exact ⟨m, hr, rfl⟩
  · simp only [VR] at hx
    obtain ⟨m, q, hr, _, _, _, rfl⟩ := hx
    obtain ⟨z, hs, hb, rfl⟩ := idxK_inv h
    refine ⟨.pointer (some ⟨m, o + i * z, none⟩), ?_, ?_⟩
    · simp only [Instr.indexAt, asIntOf, Sem.run_bind, Sem.run_pure, run_und hd, Result.andThen_ok]
      rw [if_pos (lt_int (blt_t hb))]
      simp only [Sem.run_bind, run_size hs, Result.andThen_ok, addr_add, Sem.run_pure]
      rfl
    · simp only [VR]
      exact ⟨m, hr, rfl⟩
theorem bs_get {l : List Nat} {i b : Nat} (hl : ∀ x ∈ l, x < 256) (h : l[i]? = some b) : ∃ u : UInt8, (bs l)[i]? = some u ∧ u.toNat = b := by
  obtain ⟨hi, he⟩ := List.getElem?_eq_some_iff.1 h
  have hs : i < (bs l).size := by rw [bs_size]; exact hi
  refine ⟨(bs l)[i], getElem?_pos (bs l) i hs, ?_⟩
  have : (bs l)[i] = UInt8.ofNat (l[i]'hi) := by simp [bs, ByteArray.getElem_eq_getElem_data]
  rw [this, he, u8_toNat (hl b (he ▸ List.getElem_mem hi))]
theorem evIndex_ok {t : TypeId} {x i v : SV} {a j : Value} (h : evIndex i x P t = some v) (hx : VR ρ x a) (hi : VR ρ i j) : ∃ u, (Instr.index t a j).run P w = .ok u w ∧ VR ρ v u := by
  obtain ⟨k, i, rfl, g⟩ := evIndex_inv h
  clear h
  have h := g
  simp only [VR] at hi
  subst hi
  rcases idxB_inv h with ⟨n, e, l, hd, rfl, g2⟩ | ⟨l, hd, rfl, g2⟩ <;> clear h <;> have h := g2
  · simp only [VR] at hx
    obtain ⟨us, hx, rfl⟩ := hx
    cases hs : sizeT P e with
    | none => rw [hs] at h; simp [idxE] at h
    | some z =>
      rw [hs] at h
      cases hb : Nat.blt i n with
      | false => rw [hb] at h; cases h
      | true =>
        rw [hb] at h
        simp only [idxE] at h
        obtain ⟨u, h1, h2⟩ := evPart_ok (w := w) h hx
        refine ⟨u, ?_, h2⟩
        simp only [Instr.index, asIntOf, Sem.run_bind, Sem.run_pure, run_und hd, Result.andThen_ok]
        rw [if_pos (lt_int (blt_t hb))]
        simp only [Sem.run_bind, run_size hs, Result.andThen_ok]
        exact h1
  · simp only [VR] at hx
    obtain ⟨rfl, hl⟩ := hx
    cases hg : l[i]? with
    | none => rw [hg] at h; cases h
    | some b =>
      rw [hg] at h
      simp only [byteR, Option.some.injEq] at h
      subst h
      obtain ⟨u, h1, h2⟩ := bs_get hl hg
      refine ⟨.int .u8 u.toNat, ?_, ?_⟩
      · simp only [Instr.index, asIntOf, Sem.run_bind, Sem.run_pure, run_und hd, Result.andThen_ok]
        have h0 : (0 : Int) ≤ Int.ofNat i := by simp
        have e2 : (Int.ofNat i).toNat = i := rfl
        simp only [h0, if_true, e2, h1]
        rfl
      · simp only [VR, h2]; rfl
theorem evMinL_ok {mx : Bool} {k : IntKind} : ∀ {l : List SV} {a : Int} {v : SV} {us : List Value}, evMinL mx k a l = some v → VRs ρ l us →
    ∃ u, (us.foldlM (if mx then Builtin.max2 else Builtin.min2) (.int k a)).run P w = .ok u w ∧ VR ρ v u
  | [], a, v, us, h, hv => by
    rw [vrs_nil] at hv
    subst hv
    simp only [evMinL, Option.some.injEq] at h
    subst h
    exact ⟨_, rfl, by simp only [VR]⟩
  | x :: l, a, v, [], h, hv => by simp only [VRs] at hv; obtain ⟨v, r, e, _⟩ := hv; cases e
  | x :: l, a, v, u :: us, h, hv => by
    rw [vrs_cons] at hv
    obtain ⟨h1, h2⟩ := hv
    obtain ⟨b, rfl, g⟩ := evMinL_inv h
    clear h
    have h := g
    simp only [VR] at h1
    subst h1
    obtain ⟨r, h3, h4⟩ := evMinL_ok h h2
    refine ⟨r, ?_, h4⟩
    simp only [List.foldlM_cons, Sem.run_bind]
    cases mx with
    | true =>
      have e3 : (if true = true then Builtin.max2 else Builtin.min2) (.int k a) (.int k b) = (pure (.int k (if b > a then b else a)) : Sem Value) := rfl
      rw [e3]
      simp only [Sem.run_pure, Result.andThen_ok]
      exact h3
    | false =>
      have e3 : (if false = true then Builtin.max2 else Builtin.min2) (.int k a) (.int k b) = (pure (.int k (if b < a then b else a)) : Sem Value) := rfl
      rw [e3]
      simp only [Sem.run_pure, Result.andThen_ok]
      exact h3
theorem evMin_ok {mx : Bool} {l : List SV} {v : SV} {us : List Value} {ts : Array TypeId} {t : TypeId} (h : evMin mx l = some v) (hv : VRs ρ l us) :
    ∃ u, (if mx then Builtin.max_ ts t us.toArray else Builtin.min_ ts t us.toArray).run P w = .ok u w ∧ VR ρ v u := by
  unfold evMin at h
  split at h
  · rename_i k a l
    cases us with
    | nil => simp only [VRs] at hv; obtain ⟨v, r, e, _⟩ := hv; cases e
    | cons u us =>
      rw [vrs_cons] at hv
      obtain ⟨h1, h2⟩ := hv
      simp only [VR] at h1
      subst h1
      obtain ⟨r, h3, h4⟩ := evMinL_ok (P := P) (w := w) h h2
      refine ⟨r, ?_, h4⟩
      cases mx <;> exact h3
  · cases h
end
end Go.Proofs.YtndpcphmndfajaaGreatDoor

namespace Go.Proofs.YtndpcphmndfajaaGreatDoor
open Go.RowKit
set_option linter.unusedVariables false
set_option linter.unusedSimpArgs false

section
variable {X : Cx} {F : Nat → Prop} {ρ : Ren} {w : World}

def addR (ρ : Ren) (c n : Nat) (Q : Nat → Prop) : Ren := ⟨fun b m => ρ.r b m ∨ (b = c ∧ m = n), ρ.d, fun b k => ρ.q b k ∨ (b = c ∧ Q k)⟩
def killR (ρ : Ren) (b : Nat) : Ren := ⟨fun k m => ρ.r k m ∨ k = b, fun k => ρ.d k ∨ k = b, ρ.q⟩
theorem addR_le (ρ : Ren) (c n : Nat) (Q : Nat → Prop) : ρ.le (addR ρ c n Q) := ⟨fun _ _ h => .inl h, fun _ h => h, fun _ _ h => .inl h⟩
theorem killR_le (ρ : Ren) (b : Nat) : ρ.le (killR ρ b) := ⟨fun _ _ h => .inl h, fun _ h => .inl h, fun _ _ h => h⟩

/-- Two worlds alike but for their memory and their draws. -/
def Alike (w w' : World) : Prop := w'.os = w.os ∧ w'.tape = w.tape ∧ w'.output = w.output
theorem Alike.refl (w : World) : Alike w w := ⟨rfl, rfl, rfl⟩

def FN (F : Nat → Prop) (c c' : Nat) : Nat → Prop := fun b => F b ∨ (c ≤ b ∧ b < c')
theorem FN.same {c : Nat} (b : Nat) (h : FN F c c b) : F b := by
  rcases h with h | h
  · exact h
  · omega
theorem FN.mono {c c' c'' : Nat} (h : c' ≤ c'') (b : Nat) (k : FN F c c' b) : FN F c c'' b := k.imp id fun k => ⟨k.1, by omega⟩

theorem get_wr (S : St) (b : Nat) (x : Option LB) (k : Nat) : (S.wr b x).H.get k = if k = b then x else S.H.get k := tr_get_set _ _ _ _ _ (Nat.lt_succ_self _)
theorem get_new (S : St) (x : LB) (k : Nat) : (S.new x).H.get k = if k = S.c then some x else S.H.get k := tr_get_set _ _ _ _ _ (Nat.lt_succ_self _)

/-- Nothing turns but the draws. -/
theorem mr_same {H : TR LB} (h : MR X F ρ H w) {w' : World} (hh : w'.heap = w.heap) (ha : Alike w w') : MR X F ρ H w' where
  hp := by rw [hh]; exact h.hp
  dd := h.dd
  fn := h.fn
  ij := h.ij
  rg := by rw [hh]; exact h.rg
  lo := h.lo
  gl := h.gl
  cp := by rw [hh]; exact h.cp
  bl := ⟨ha.1.trans h.bl.os, ha.2.1.trans h.bl.tape, ha.2.2.trans h.bl.output, by rw [hh]; exact h.bl.size, by rw [hh]; exact h.bl.block⟩
theorem stp_same {m c : Nat} {H : TR LB} {w' : World} (hh : w'.heap = w.heap) (ha : Alike w w') : Stp m c c H ρ ρ w w' where
  le := .refl _
  nr := fun _ _ h _ => .inl h
  nd := fun _ h => .inl h
  nq := fun _ _ h => .inl h
  sz := by rw [hh]; exact Nat.le_refl _
  un := fun _ _ _ => by rw [hh]
  st := ha

/-- A block has the room that a name tells. -/
def Room (P : Program) (x : LB) (o : Obj) (Q : Nat → Prop) : Prop := ∀ l e k z, x = .cells l e → Q k → sizeT P e = some z → ∃ c e' fz, o = .cells c e' fz ∧ k * z ≤ c.size
theorem room_no {P : Program} {x : LB} {o : Obj} : Room P x o (fun _ => False) := fun _ _ _ _ _ h => h.elim
theorem mr_new {S : St} {x : LB} {o : Obj} {w' : World} {Q : Nat → Prop} (h : MR X F ρ S.H w) (hf : Frsh ρ S.c (S.c + 1)) (hh : w'.heap = w.heap.push o) (ha : Alike w w')
    (hB : BR (addR ρ S.c w.heap.size Q) x o) (hQ : Room X.E.P x o Q) : MR X (FN F S.c (S.c + 1)) (addR ρ S.c w.heap.size Q) (S.new x).H w' where
  hp := by
    intro b y hb hy
    rw [get_new] at hy
    by_cases he : b = S.c
    · subst he
      rw [if_pos rfl] at hy
      injection hy with hy
      subst hy
      exact ⟨w.heap.size, o, .inr ⟨rfl, rfl⟩, by rw [hh]; simp, hB⟩
    · rw [if_neg he] at hy
      have hb' : F b := by
        rcases hb with hb | hb
        · exact hb
        · omega
      obtain ⟨n, o', h1, h2, h3⟩ := h.hp b y hb' hy
      refine ⟨n, o', .inl h1, ?_, h3.mono (addR_le _ _ _ _)⟩
      rw [hh, Array.getElem?_push]
      have := (Array.getElem?_eq_some_iff.1 h2).1
      rw [if_neg (by omega)]
      exact h2
  dd := by
    intro b hb hd
    rw [get_new]
    have hne : b ≠ S.c := fun e => (hf b (by omega) (by omega)).1 hd
    rw [if_neg hne]
    refine h.dd b ?_ hd
    rcases hb with hb | hb
    · exact hb
    · omega
  fn := by
    intro b n m hd h1 h2
    have hd : ¬ρ.d b := hd
    rcases h1 with h1 | ⟨rfl, rfl⟩
    · rcases h2 with h2 | ⟨rfl, rfl⟩
      · exact h.fn b n m hd h1 h2
      · exact absurd h1 ((hf _ (Nat.le_refl _) (Nat.lt_succ_self _)).2 n).1
    · rcases h2 with h2 | ⟨_, rfl⟩
      · exact absurd h2 ((hf _ (Nat.le_refl _) (Nat.lt_succ_self _)).2 m).1
      · rfl
  ij := by
    intro b c n hb hc h1 h2
    rcases h1 with h1 | ⟨rfl, rfl⟩
    · rcases h2 with h2 | ⟨rfl, rfl⟩
      · exact h.ij b c n hb hc h1 h2
      · exact absurd (h.rg b _ hb h1) (Nat.lt_irrefl _)
    · rcases h2 with h2 | ⟨rfl, _⟩
      · exact absurd (h.rg c _ hc h2) (Nat.lt_irrefl _)
      · rfl
  rg := by
    intro b n hb h1
    rw [hh, Array.size_push]
    rcases h1 with h1 | ⟨_, rfl⟩
    · exact Nat.lt_succ_of_lt (h.rg b n hb h1)
    · exact Nat.lt_succ_self _
  lo := by
    intro b n hb h1 hg
    rcases h1 with h1 | ⟨_, rfl⟩
    · exact h.lo b n hb h1 hg
    · exact h.bl.size
  gl := fun g hg => ⟨.inl (h.gl g hg).1, (h.gl g hg).2⟩
  cp := by
    intro b n l e k z hb hg hr hq hz
    rw [get_new] at hg
    by_cases he : b = S.c
    · subst he
      rw [if_pos rfl] at hg
      injection hg with hg
      have hr : n = w.heap.size := by
        rcases hr with hr | hr
        · exact absurd hr ((hf _ (Nat.le_refl _) (Nat.lt_succ_self _)).2 n).1
        · exact hr.2
      have hq : Q k := by
        rcases hq with hq | hq
        · exact absurd hq ((hf _ (Nat.le_refl _) (Nat.lt_succ_self _)).2 k).2
        · exact hq.2
      obtain ⟨c, e', fz, h1, h2⟩ := hQ l e k z hg hq hz
      exact ⟨c, e', fz, by rw [hr, hh, h1]; simp, h2⟩
    · rw [if_neg he] at hg
      have hb' : F b := by
        rcases hb with hb | hb
        · exact hb
        · omega
      have hr : ρ.r b n := hr.resolve_right fun e => he e.1
      have hq : ρ.q b k := hq.resolve_right fun e => he e.1
      obtain ⟨c, e', fz, h1, h2⟩ := h.cp b n l e k z hb' hg hr hq hz
      refine ⟨c, e', fz, ?_, h2⟩
      rw [hh, Array.getElem?_push]
      have := (Array.getElem?_eq_some_iff.1 h1).1
      rw [if_neg (by omega)]
      exact h1
  bl := by
    refine ⟨ha.1.trans h.bl.os, ha.2.1.trans h.bl.tape, ha.2.2.trans h.bl.output, by rw [hh, Array.size_push]; exact Nat.le_succ_of_le h.bl.size, fun k hk => ?_⟩
    rw [hh, Array.getElem?_push, if_neg (by have := h.bl.size; omega)]
    exact h.bl.block k hk
theorem stp_new {S : St} {m : Nat} {H : TR LB} {o : Obj} {w' : World} {Q : Nat → Prop} (hh : w'.heap = w.heap.push o) (ha : Alike w w') : Stp m S.c (S.c + 1) H ρ (addR ρ S.c w.heap.size Q) w w' where
  le := addR_le _ _ _ _
  nr := by
    intro b n h hd
    rcases h with h | ⟨rfl, rfl⟩
    · exact .inl h
    · exact .inr ⟨Nat.le_refl _, Nat.lt_succ_self _, .inl (Nat.le_refl _)⟩
  nd := fun _ h => .inl h
  nq := fun b k h => h.imp id fun e => ⟨by omega, by omega⟩
  sz := by rw [hh, Array.size_push]; exact Nat.le_succ _
  un := fun n hn _ => by rw [hh, Array.getElem?_push, if_neg (by omega)]
  st := ha

/-- A block keeps its room. -/
def Keeps (x y : LB) (o : Option Obj) (o' : Obj) : Prop := ∀ l e, y = .cells l e → (∃ l', x = .cells l' e) ∧ ∀ c t fz, o = some (.cells c t fz) → ∃ c' t' fz', o' = .cells c' t' fz' ∧ c'.size = c.size
theorem mr_wr {S : St} {b n : Nat} {x y : LB} {o : Obj} {w' : World} (h : MR X F ρ S.H w) (hb : F b) (hx : S.H.get b = some x) (hr : ρ.r b n) (hng : X.E.ng ≤ b)
    (hh : w'.heap = w.heap.setIfInBounds n o) (ha : Alike w w') (hB : BR ρ y o) (hK : Keeps x y w.heap[n]? o) : MR X F ρ (S.wr b (some y)).H w' := by
  have hd : ¬ρ.d b := fun e => by rw [h.dd b hb e] at hx; cases hx
  have hn := h.rg b n hd hr
  refine ⟨?_, ?_, h.fn, h.ij, ?_, h.lo, h.gl, ?_, ?_⟩
  · intro c z hc hz
    rw [get_wr] at hz
    by_cases he : c = b
    · subst he
      rw [if_pos rfl] at hz
      injection hz with hz
      subst hz
      exact ⟨n, o, hr, by rw [hh]; simp [Array.getElem?_setIfInBounds, hn], hB⟩
    · rw [if_neg he] at hz
      obtain ⟨n', o', h1, h2, h3⟩ := h.hp c z hc hz
      have hdc : ¬ρ.d c := fun e => by rw [h.dd c hc e] at hz; cases hz
      have hne : n ≠ n' := fun e => he (h.ij c b n' hdc hd h1 (e ▸ hr))
      exact ⟨n', o', h1, by rw [hh, Array.getElem?_setIfInBounds_ne hne]; exact h2, h3⟩
  · intro c hc hdc
    rw [get_wr]
    have : c ≠ b := fun e => hd (e ▸ hdc)
    rw [if_neg this]
    exact h.dd c hc hdc
  · intro c m hc hm
    rw [hh, Array.size_setIfInBounds]
    exact h.rg c m hc hm
  · intro c n' l e k z hc hg hr' hq hz
    rw [get_wr] at hg
    by_cases he : c = b
    · subst he
      rw [if_pos rfl] at hg
      injection hg with hg
      obtain rfl := h.fn c n' n hd hr' hr
      obtain ⟨⟨l', rfl⟩, h2⟩ := hK l e hg
      obtain ⟨c0, t0, f0, h3, h4⟩ := h.cp c n' l' e k z hc hx hr' hq hz
      obtain ⟨c1, t1, f1, rfl, h5⟩ := h2 c0 t0 f0 h3
      exact ⟨c1, t1, f1, by rw [hh]; simp [Array.getElem?_setIfInBounds, hn], by omega⟩
    · rw [if_neg he] at hg
      have hdc : ¬ρ.d c := fun e => by rw [h.dd c hc e] at hg; cases hg
      obtain ⟨c0, t0, f0, h3, h4⟩ := h.cp c n' l e k z hc hg hr' hq hz
      have hne : n ≠ n' := fun e => he (h.ij c b n' hdc hd hr' (e ▸ hr))
      exact ⟨c0, t0, f0, by rw [hh, Array.getElem?_setIfInBounds_ne hne]; exact h3, h4⟩
  · refine ⟨ha.1.trans h.bl.os, ha.2.1.trans h.bl.tape, ha.2.2.trans h.bl.output, by rw [hh, Array.size_setIfInBounds]; exact h.bl.size, fun k hk => ?_⟩
    have := h.lo b n hd hr hng
    rw [hh, Array.getElem?_setIfInBounds_ne (by omega)]
    exact h.bl.block k hk
theorem stp_wr {m b n c : Nat} {H : TR LB} {o : Obj} {w' : World} (hm : m.testBit b = true) (hd : ¬ρ.d b) (hr : ρ.r b n) (hh : w'.heap = w.heap.setIfInBounds n o) (ha : Alike w w') :
    Stp m c c H ρ ρ w w' where
  le := .refl _
  nr := fun _ _ h _ => .inl h
  nd := fun _ h => .inl h
  nq := fun _ _ h => .inl h
  sz := by rw [hh, Array.size_setIfInBounds]; exact Nat.le_refl _
  un := fun k hk hu => by
    have : n ≠ k := fun e => hu b hm hd (e ▸ hr)
    rw [hh, Array.getElem?_setIfInBounds_ne this]
  st := ha

/-- A name is given up. -/
theorem mr_kill {S : St} {b : Nat} (h : MR X F ρ S.H w) (hng : X.E.ng ≤ b) : MR X F (killR ρ b) (S.wr b none).H w where
  hp := by
    intro c z hc hz
    rw [get_wr] at hz
    by_cases he : c = b
    · rw [if_pos he] at hz; cases hz
    · rw [if_neg he] at hz
      obtain ⟨n', o', h1, h2, h3⟩ := h.hp c z hc hz
      exact ⟨n', o', .inl h1, h2, h3.mono (killR_le _ _)⟩
  dd := by
    intro c hc hd
    rw [get_wr]
    by_cases he : c = b
    · rw [if_pos he]
    · rw [if_neg he]
      rcases hd with hd | hd
      · exact h.dd c hc hd
      · exact absurd hd he
  fn := by
    intro c n m hd h1 h2
    have hd' : ¬ρ.d c ∧ c ≠ b := ⟨fun e => hd (.inl e), fun e => hd (.inr e)⟩
    exact h.fn c n m hd'.1 (h1.resolve_right hd'.2) (h2.resolve_right hd'.2)
  ij := by
    intro c e n hc he h1 h2
    have hc' : ¬ρ.d c ∧ c ≠ b := ⟨fun e => hc (.inl e), fun e => hc (.inr e)⟩
    have he' : ¬ρ.d e ∧ e ≠ b := ⟨fun q => he (.inl q), fun q => he (.inr q)⟩
    exact h.ij c e n hc'.1 he'.1 (h1.resolve_right hc'.2) (h2.resolve_right he'.2)
  rg := by
    intro c n hc h1
    have hc' : ¬ρ.d c ∧ c ≠ b := ⟨fun e => hc (.inl e), fun e => hc (.inr e)⟩
    exact h.rg c n hc'.1 (h1.resolve_right hc'.2)
  lo := by
    intro c n hc h1
    have hc' : ¬ρ.d c ∧ c ≠ b := ⟨fun e => hc (.inl e), fun e => hc (.inr e)⟩
    exact h.lo c n hc'.1 (h1.resolve_right hc'.2)
  gl := fun g hg => ⟨.inl (h.gl g hg).1, fun e => by
    rcases e with e | e
    · exact (h.gl g hg).2 e
    · omega⟩
  cp := by
    intro c n l e k z hc hg hr hq hz
    rw [get_wr] at hg
    by_cases he : c = b
    · rw [if_pos he] at hg; cases hg
    · rw [if_neg he] at hg
      exact h.cp c n l e k z hc hg (hr.resolve_right he) hq hz
  bl := h.bl
theorem stp_kill {S : St} {m b c : Nat} (hm : m.testBit b = true) (hc : b < c) : Stp m c c (S.wr b none).H ρ (killR ρ b) w w where
  le := killR_le _ _
  nr := fun k n h hd => .inl (h.resolve_right fun e => hd (.inr e))
  nd := fun k h => by
    rcases h with h | rfl
    · exact .inl h
    · exact .inr ⟨hc, hm, by rw [get_wr, if_pos rfl]⟩
  nq := fun _ _ h => .inl h
  sz := Nat.le_refl _
  un := fun _ _ _ => rfl
  st := ⟨rfl, rfl, rfl⟩

/-- A name is given up for a new one at the same block. -/
theorem mr_move {S : St} {b n : Nat} {x y : LB} {o : Obj} {w' : World} (h : MR X F ρ S.H w) (hf : Frsh ρ S.c (S.c + 1)) (hb : F b) (hbc : b < S.c) (hx : S.H.get b = some x) (hr : ρ.r b n) (hng : X.E.ng ≤ b)
    (hh : w'.heap = w.heap.setIfInBounds n o) (ha : Alike w w') {Q : Nat → Prop} (hB : BR (addR (killR ρ b) S.c n Q) y o) (hQ : Room X.E.P y o Q) :
    MR X (FN F S.c (S.c + 1)) (addR (killR ρ b) S.c n Q) ((S.wr b none).new y).H w' := by
  have hd : ¬ρ.d b := fun e => by rw [h.dd b hb e] at hx; cases hx
  have hn := h.rg b n hd hr
  have hk := mr_kill h hng
  have hget : ∀ k, ((S.wr b none).new y).H.get k = if k = S.c then some y else (if k = b then none else S.H.get k) := fun k => by rw [get_new, get_wr]; rfl
  have hf' : ∀ m, ¬(killR ρ b).r S.c m := fun m e => by
    rcases e with e | e
    · exact ((hf _ (Nat.le_refl _) (Nat.lt_succ_self _)).2 m).1 e
    · omega
  have hfq : ∀ k, ¬ρ.q S.c k := fun k => ((hf _ (Nat.le_refl _) (Nat.lt_succ_self _)).2 k).2
  have hfd : ¬(killR ρ b).d S.c := fun e => by
    rcases e with e | e
    · exact (hf _ (Nat.le_refl _) (Nat.lt_succ_self _)).1 e
    · omega
  have hno : ∀ k, ¬(killR ρ b).d k → ¬(killR ρ b).r k n := fun k hkd hkr => by
    have hc' : ¬ρ.d k ∧ k ≠ b := ⟨fun e => hkd (.inl e), fun e => hkd (.inr e)⟩
    exact hc'.2 (h.ij k b n hc'.1 hd (hkr.resolve_right hc'.2) hr)
  refine ⟨?_, ?_, ?_, ?_, ?_, ?_, ?_, ?_, ?_⟩
  · intro c z hc hz
    rw [hget] at hz
    by_cases he : c = S.c
    · subst he
      rw [if_pos rfl] at hz
      injection hz with hz
      subst hz
      exact ⟨n, o, .inr ⟨rfl, rfl⟩, by rw [hh]; simp [Array.getElem?_setIfInBounds, hn], hB⟩
    · rw [if_neg he] at hz
      by_cases he2 : c = b
      · rw [if_pos he2] at hz; cases hz
      · rw [if_neg he2] at hz
        have hcF : F c := by
          rcases hc with hc | hc
          · exact hc
          · omega
        obtain ⟨n', o', h1, h2, h3⟩ := h.hp c z hcF hz
        have hdc : ¬ρ.d c := fun e => by rw [h.dd c hcF e] at hz; cases hz
        have hne : n ≠ n' := fun e => he2 (h.ij c b n' hdc hd h1 (e ▸ hr))
        exact ⟨n', o', .inl (.inl h1), by rw [hh, Array.getElem?_setIfInBounds_ne hne]; exact h2, h3.mono ((killR_le _ _).trans (addR_le _ _ _ _))⟩
  · intro c hc hdc
    rw [hget]
    have hdc : (killR ρ b).d c := hdc
    have : c ≠ S.c := fun e => hfd (e ▸ hdc)
    rw [if_neg this]
    by_cases he2 : c = b
    · rw [if_pos he2]
    · rw [if_neg he2]
      have hcF : F c := by
        rcases hc with hc | hc
        · exact hc
        · omega
      exact h.dd c hcF (hdc.resolve_right he2)
  · intro c m q hdc h1 h2
    have hdc : ¬(killR ρ b).d c := hdc
    rcases h1 with h1 | ⟨rfl, rfl⟩
    · rcases h2 with h2 | ⟨rfl, rfl⟩
      · exact hk.fn c m q hdc h1 h2
      · exact absurd h1 (hf' m)
    · rcases h2 with h2 | ⟨_, rfl⟩
      · exact absurd h2 (hf' q)
      · rfl
  · intro c e q hc he h1 h2
    rcases h1 with h1 | ⟨rfl, rfl⟩
    · rcases h2 with h2 | ⟨rfl, rfl⟩
      · exact hk.ij c e q hc he h1 h2
      · exact absurd h1 (hno c hc)
    · rcases h2 with h2 | ⟨rfl, _⟩
      · exact absurd h2 (hno e he)
      · rfl
  · intro c m hc h1
    rw [hh, Array.size_setIfInBounds]
    rcases h1 with h1 | ⟨_, rfl⟩
    · exact hk.rg c m hc h1
    · exact hn
  · intro c m hc h1 hg
    rcases h1 with h1 | ⟨_, rfl⟩
    · exact hk.lo c m hc h1 hg
    · exact h.lo b _ hd hr hng
  · exact fun g hg => ⟨.inl (hk.gl g hg).1, (hk.gl g hg).2⟩
  · intro c n' l e k z hc hg hr' hq hz
    rw [hget] at hg
    by_cases he : c = S.c
    · subst he
      rw [if_pos rfl] at hg
      injection hg with hg
      have hr' : n' = n := by
        rcases hr' with hr' | hr'
        · exact absurd hr' (hf' n')
        · exact hr'.2
      have hq : Q k := by
        rcases hq with hq | hq
        · exact absurd hq (hfq k)
        · exact hq.2
      obtain ⟨c0, t0, f0, h1, h2⟩ := hQ l e k z hg hq hz
      exact ⟨c0, t0, f0, by rw [hr', hh, h1]; simp [Array.getElem?_setIfInBounds, hn], h2⟩
    · rw [if_neg he] at hg
      by_cases he2 : c = b
      · rw [if_pos he2] at hg; cases hg
      · rw [if_neg he2] at hg
        have hcF : F c := by
          rcases hc with hc | hc
          · exact hc
          · omega
        have hdc : ¬ρ.d c := fun e => by rw [h.dd c hcF e] at hg; cases hg
        have hr2 : ρ.r c n' := (hr'.resolve_right fun e => he e.1).resolve_right he2
        have hq2 : ρ.q c k := hq.resolve_right fun e => he e.1
        obtain ⟨c0, t0, f0, h1, h2⟩ := h.cp c n' l e k z hcF hg hr2 hq2 hz
        have hne : n ≠ n' := fun e => he2 (h.ij c b n' hdc hd hr2 (e ▸ hr))
        exact ⟨c0, t0, f0, by rw [hh, Array.getElem?_setIfInBounds_ne hne]; exact h1, h2⟩
  · refine ⟨ha.1.trans h.bl.os, ha.2.1.trans h.bl.tape, ha.2.2.trans h.bl.output, by rw [hh, Array.size_setIfInBounds]; exact h.bl.size, fun k hk => ?_⟩
    have := h.lo b n hd hr hng
    rw [hh, Array.getElem?_setIfInBounds_ne (by omega)]
    exact h.bl.block k hk
theorem stp_move {S : St} {m b n : Nat} {y : LB} {o : Obj} {w' : World} {Q : Nat → Prop} (hm : m.testBit b = true) (hd : ¬ρ.d b) (hbc : b < S.c) (hr : ρ.r b n) (hh : w'.heap = w.heap.setIfInBounds n o) (ha : Alike w w') :
    Stp m S.c (S.c + 1) ((S.wr b none).new y).H ρ (addR (killR ρ b) S.c n Q) w w' where
  le := (killR_le _ _).trans (addR_le _ _ _ _)
  nr := fun k q h hdk => by
    have hdk : ¬(killR ρ b).d k := hdk
    rcases h with h | ⟨rfl, rfl⟩
    · exact .inl (h.resolve_right fun e => hdk (.inr e))
    · exact .inr ⟨Nat.le_refl _, Nat.lt_succ_self _, .inr ⟨b, hm, hd, hr⟩⟩
  nd := fun k h => by
    have h : (killR ρ b).d k := h
    rcases h with h | rfl
    · exact .inl h
    · refine .inr ⟨by omega, hm, ?_⟩
      rw [get_new, if_neg (by show k ≠ S.c; omega), get_wr, if_pos rfl]
  nq := fun k q h => h.imp id fun e => ⟨by omega, by omega⟩
  sz := by rw [hh, Array.size_setIfInBounds]; exact Nat.le_refl _
  un := fun k hk hu => by
    have : n ≠ k := fun e => hu b hm hd (e ▸ hr)
    rw [hh, Array.getElem?_setIfInBounds_ne this]
  st := ha

/-! ### What an operation shows -/
def Wth (F : Nat → Prop) (S S' : St) : Prop := ∀ b, b < S.c → (S'.r.testBit b = true ∨ S'.w.testBit b = true) → F b
/-- Names in use are below the next one. -/
def OkE (S : St) : Prop := ∀ b x, S.H.get b = some x → b < S.c
theorem ok_new {S : St} {x : LB} (h : OkE S) : OkE (S.new x) := fun b y hy => by
  rw [get_new] at hy
  show b < S.c + 1
  by_cases he : b = S.c
  · omega
  · rw [if_neg he] at hy; have := h b y hy; omega
theorem ok_wr {S : St} {b : Nat} {x : Option LB} (h : OkE S) (hb : b < S.c) : OkE (S.wr b x) := fun k y hy => by
  rw [get_wr] at hy
  by_cases he : k = b
  · subst he; exact hb
  · rw [if_neg he] at hy; exact h k y hy
/-- A run of the evaluator and one of the model: 'A ρ s': the model's code s stands at data that belong to the evaluator's by the names ρ. -/
def Tri (X : Cx) (S S' : St) (v : SV) (A : Ren → Sem Value → Prop) : Prop :=
  OkE S → OkE S' ∧ Ext S S' ∧ ∀ F ρ w s, Wth F S S' → Frsh ρ S.c S'.c → MR X F ρ S.H w → A ρ s →
    ∃ u w' σ, s.run X.E.P w = .ok u w' ∧ VR σ v u ∧ Stp S'.w S.c S'.c S'.H ρ σ w w' ∧ MR X (FN F S.c S'.c) σ S'.H w'
theorem tri_pure {S : St} {v : SV} {A : Ren → Sem Value → Prop} (h : ∀ ρ w s, A ρ s → ∃ u, s.run X.E.P w = .ok u w ∧ VR ρ v u) : Tri X S S v A :=
  fun hok => ⟨hok, .refl _, fun F ρ w s _ _ hm ha => by
    obtain ⟨u, h1, h2⟩ := h ρ w s ha
    exact ⟨u, w, ρ, h1, h2, .refl, hm.sub FN.same⟩⟩
theorem wth_saw {S : St} {b : Nat} (h : Wth F S (S.saw b)) (hb : b < S.c) : F b :=
  h b hb (.inl (by show (Nat.lor S.r (Nat.shiftLeft 1 b)).testBit b = true; rw [bit_lor]; simp))
/-- A block is read. -/
theorem tri_saw {S : St} {b : Nat} {x : LB} {v : SV} {A : Ren → Sem Value → Prop} (hb : S.H.get b = some x)
    (h : ∀ ρ w s n o, A ρ s → ρ.r b n → (∀ m, ρ.r b m → m = n) → w.heap[n]? = some o → BR ρ x o → ∃ u, s.run X.E.P w = .ok u w ∧ VR ρ v u) : Tri X S (S.saw b) v A :=
  fun hok => ⟨hok, ext_saw _ _, fun F ρ w s hw _ hm ha => by
    have hF := wth_saw hw (hok b x hb)
    obtain ⟨n, o, h1, h2, h3⟩ := hm.hp b x hF hb
    have hd : ¬ρ.d b := fun e => by rw [hm.dd b hF e] at hb; cases hb
    obtain ⟨u, h4, h5⟩ := h ρ w s n o ha h1 (fun m hm' => hm.fn b m n hd hm' h1) h2 h3
    exact ⟨u, w, ρ, h4, h5, .refl, hm.sub FN.same⟩⟩
/-- A new block is made. -/
theorem tri_new {S : St} {x : LB} {v : SV} {A : Ren → Sem Value → Prop}
    (h : ∀ ρ w s, A ρ s → ∃ u o w' Q, s.run X.E.P w = .ok u w' ∧ w'.heap = w.heap.push o ∧ Alike w w' ∧ Room X.E.P x o Q ∧ (∀ σ : Ren, ρ.le σ → σ.r S.c w.heap.size → (∀ k, Q k → σ.q S.c k) → VR σ v u ∧ BR σ x o)) : Tri X S (S.new x) v A :=
  fun hok => ⟨ok_new hok, ext_new _ _, fun F ρ w s _ hf hm ha => by
    obtain ⟨u, o, w', Q, h1, h2, h3, hQ, h4⟩ := h ρ w s ha
    obtain ⟨h5, h6⟩ := h4 _ (addR_le ρ S.c w.heap.size Q) (.inr ⟨rfl, rfl⟩) (fun k hk => .inr ⟨rfl, hk⟩)
    exact ⟨u, w', _, h1, h5, stp_new h2 h3, mr_new hm hf h2 h3 h6 hQ⟩⟩
theorem wr_bit (S : St) (b : Nat) (y : Option LB) : (S.wr b y).w.testBit b = true := by show (Nat.lor S.w (Nat.shiftLeft 1 b)).testBit b = true; rw [bit_lor]; simp
/-- A block is written. -/
theorem tri_wr {S : St} {b : Nat} {x y : LB} {v : SV} {A : Ren → Sem Value → Prop} (hb : S.H.get b = some x) (hng : X.E.ng ≤ b)
    (h : ∀ ρ w s n o, A ρ s → ρ.r b n → (∀ m, ρ.r b m → m = n) → w.heap[n]? = some o → BR ρ x o → ∃ u w' o', s.run X.E.P w = .ok u w' ∧ w'.heap = w.heap.setIfInBounds n o' ∧ Alike w w' ∧ VR ρ v u ∧ BR ρ y o' ∧ Keeps x y (some o) o') : Tri X S (S.wr b (some y)) v A :=
  fun hok => ⟨ok_wr hok (hok b x hb), ext_wr _ _ _ (.inl (by rw [hb]; simp)), fun F ρ w s hw _ hm ha => by
    have hF : F b := hw b (hok b x hb) (.inr (wr_bit _ _ _))
    obtain ⟨n, o, h1, h2, h3⟩ := hm.hp b x hF hb
    have hd : ¬ρ.d b := fun e => by rw [hm.dd b hF e] at hb; cases hb
    obtain ⟨u, w', o', h4, h5, h6, h7, h8, h9⟩ := h ρ w s n o ha h1 (fun m hm' => hm.fn b m n hd hm' h1) h2 h3
    exact ⟨u, w', ρ, h4, h7, stp_wr (wr_bit _ _ _) hd h1 h5 h6, (mr_wr hm hF hb h1 hng h5 h6 h8 (by rw [h2]; exact h9)).sub FN.same⟩⟩
end
end Go.Proofs.YtndpcphmndfajaaGreatDoor
