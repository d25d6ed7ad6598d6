/- The evaluator's data and the model's: how they belong together; what a step may do. | The evaluator: numbers, texts, parts, equality. | The evaluator: equality, operators, places. -/
import Derived.Test.YtndpcphmndfajaaGreatDoorZEv1
import Derived.Below
import Derived.Laws.Strings
import Derived.Laws.StructEq

namespace Go.Proofs.YtndpcphmndfajaaGreatDoor
open Go.RowKit
set_option linter.unusedVariables false
set_option linter.unusedSimpArgs false

/-! ### Trees -/
theorem tr_get_e {α : Type} (k : Nat) : (TR.e : TR α).get k = none := by cases k <;> rfl
theorem tr_get_set {α : Type} : ∀ (f : Nat) (t : TR α) (k : Nat) (x : Option α) (j : Nat), k < f → (TR.set f t k x).get j = if j = k then x else t.get j := by
  intro f
  induction f with
  | zero => intro t k x j h; omega
  | succ f ih =>
    intro t k x j h
    have hb : ∀ i, Nat.beq (Nat.mod i 2) 0 = decide (i % 2 = 0) := fun i => by
      have e : Nat.mod i 2 = i % 2 := rfl
      rw [e]
      rcases Nat.mod_two_eq_zero_or_one i with h | h <;> rw [h] <;> decide
    have hd : ∀ i, Nat.div i 2 = i / 2 := fun _ => rfl
    cases t with
    | e =>
      cases k with
      | zero => cases j <;> simp [TR.set, TR.get, tr_get_e] <;> split <;> rfl
      | succ k =>
        simp only [TR.set, hb, hd]
        by_cases hk : k % 2 = 0
        · simp only [hk, decide_true]
          cases j with
          | zero => simp [TR.get, tr_get_e]
          | succ j =>
            simp only [TR.get, hb, hd]
            by_cases hj : j % 2 = 0
            · simp only [hj, decide_true]
              rw [ih _ _ _ _ (by omega)]
              by_cases he : j = k
              · simp [he]
              · rw [if_neg (by omega), if_neg (by omega)]
                try exact tr_get_e _
            · simp only [hj, decide_false]
              rw [if_neg (by omega)]
              try exact tr_get_e _
        · simp only [hk, decide_false]
          cases j with
          | zero => simp [TR.get, tr_get_e]
          | succ j =>
            simp only [TR.get, hb, hd]
            by_cases hj : j % 2 = 0
            · simp only [hj, decide_true]
              rw [if_neg (by omega)]
              try exact tr_get_e _
            · simp only [hj, decide_false]
              rw [ih _ _ _ _ (by omega)]
              by_cases he : j = k
              · simp [he]
              · rw [if_neg (by omega), if_neg (by omega)]
                try exact tr_get_e _
    | n l v r =>
      cases k with
      | zero => cases j <;> simp [TR.set, TR.get, tr_get_e] <;> split <;> rfl
      | succ k =>
        simp only [TR.set, hb, hd]
        by_cases hk : k % 2 = 0
        · simp only [hk, decide_true]
          cases j with
          | zero => simp [TR.get, tr_get_e]
          | succ j =>
            simp only [TR.get, hb, hd]
            by_cases hj : j % 2 = 0
            · simp only [hj, decide_true]
              rw [ih _ _ _ _ (by omega)]
              by_cases he : j = k
              · simp [he]
              · rw [if_neg (by omega), if_neg (by omega)]
                try exact tr_get_e _
            · simp only [hj, decide_false]
              rw [if_neg (by omega)]
              try exact tr_get_e _
        · simp only [hk, decide_false]
          cases j with
          | zero => simp [TR.get, tr_get_e]
          | succ j =>
            simp only [TR.get, hb, hd]
            by_cases hj : j % 2 = 0
            · simp only [hj, decide_true]
              rw [if_neg (by omega)]
              try exact tr_get_e _
            · simp only [hj, decide_false]
              rw [ih _ _ _ _ (by omega)]
              by_cases he : j = k
              · simp [he]
              · rw [if_neg (by omega), if_neg (by omega)]
                try exact tr_get_e _

/-! ### Values -/
/-- Names and blocks: 'r b n': the name b stands for block n; 'd b': the name is given up; 'q b k': the block has room for k elements. -/
structure Ren where
  r : Nat → Nat → Prop
  d : Nat → Prop
  q : Nat → Nat → Prop
def bs (l : List Nat) : ByteArray := ⟨(l.map UInt8.ofNat).toArray⟩

mutual
def VR (ρ : Ren) : SV → Value → Prop
  | .ju, v => v.oneCell' = true
  | .und, v => v = undef
  | .b x, v => v = .bool x
  | .i k n, v => v = .int k n
  | .s l, v => v = .string (bs l) ∧ ∀ x ∈ l, x < 256
  | .np, v => v = .pointer none
  | .p b o, v => ∃ n, ρ.r b n ∧ v = .pointer (some ⟨n, o, none⟩)
  | .ns, v => v = .slice none 0 0
  | .sl b o n c, v => ∃ m k, ρ.r b m ∧ n ≤ k ∧ (∀ c', c = some c' → k = c') ∧ (c = none → o = 0 → ρ.q b k) ∧ v = .slice (some ⟨m, o, none⟩) n k
  | .sz c, v => ∃ a k, (∀ c', c = some c' → k = c') ∧ v = .slice (some a) 0 k
  | .nm, v => v = .map none
  | .m b, v => ∃ n, ρ.r b n ∧ v = .map (some n)
  | .nf, v => v = .nilFunc
  | .f f x y, v => ∃ a b, VRs ρ x a ∧ VRs ρ y b ∧ v = .func (.func f) a.toArray b.toArray
  | .agg l, v => ∃ a, VRs ρ l a ∧ v = .agg a.toArray
  | .tup l, v => ∃ a, VRs ρ l a ∧ v = .tuple a.toArray
def VRs (ρ : Ren) : List SV → List Value → Prop
  | [], vs => vs = []
  | x :: l, vs => ∃ v r, vs = v :: r ∧ VR ρ x v ∧ VRs ρ l r
end

structure Ren.le (ρ σ : Ren) : Prop where
  r : ∀ b n, ρ.r b n → σ.r b n
  d : ∀ b, ρ.d b → σ.d b
  q : ∀ b n, ρ.q b n → σ.q b n
theorem Ren.le.refl (ρ : Ren) : ρ.le ρ := ⟨fun _ _ h => h, fun _ h => h, fun _ _ h => h⟩
theorem Ren.le.trans {a b c : Ren} (h : a.le b) (k : b.le c) : a.le c := ⟨fun x n hx => k.r _ _ (h.r _ _ hx), fun x hx => k.d _ (h.d _ hx), fun x n hx => k.q _ _ (h.q _ _ hx)⟩

mutual
theorem VR.mono {ρ σ : Ren} (h : ρ.le σ) : ∀ {x : SV} {v : Value}, VR ρ x v → VR σ x v
  | .ju, _, k | .und, _, k | .b _, _, k | .i _ _, _, k | .s _, _, k | .np, _, k | .ns, _, k | .nm, _, k | .nf, _, k => by simpa only [VR] using k
  | .p b o, _, k => by simp only [VR] at k ⊢; obtain ⟨n, h1, h2⟩ := k; exact ⟨n, h.r _ _ h1, h2⟩
  | .sl b o n c, _, k => by simp only [VR] at k ⊢; obtain ⟨m, q, h1, h2, h3, h4, h5⟩ := k; exact ⟨m, q, h.r _ _ h1, h2, h3, fun e f => h.q _ _ (h4 e f), h5⟩
  | .sz c, _, k => by simpa only [VR] using k
  | .m b, _, k => by simp only [VR] at k ⊢; obtain ⟨n, h1, h2⟩ := k; exact ⟨n, h.r _ _ h1, h2⟩
  | .f f x y, _, k => by simp only [VR] at k ⊢; obtain ⟨a, b, h1, h2, h3⟩ := k; exact ⟨a, b, VRs.mono h h1, VRs.mono h h2, h3⟩
  | .agg l, _, k => by simp only [VR] at k ⊢; obtain ⟨a, h1, h2⟩ := k; exact ⟨a, VRs.mono h h1, h2⟩
  | .tup l, _, k => by simp only [VR] at k ⊢; obtain ⟨a, h1, h2⟩ := k; exact ⟨a, VRs.mono h h1, h2⟩
theorem VRs.mono {ρ σ : Ren} (h : ρ.le σ) : ∀ {x : List SV} {v : List Value}, VRs ρ x v → VRs σ x v
  | [], _, k => by simpa only [VRs] using k
  | x :: l, _, k => by simp only [VRs] at k ⊢; obtain ⟨v, r, h1, h2, h3⟩ := k; exact ⟨v, r, h1, VR.mono h h2, VRs.mono h h3⟩
end

section lists
variable {ρ : Ren}
theorem vrs_nil {vs : List Value} : VRs ρ [] vs ↔ vs = [] := by simp only [VRs]
theorem vrs_cons {x : SV} {l : List SV} {v : Value} {vs : List Value} : VRs ρ (x :: l) (v :: vs) ↔ VR ρ x v ∧ VRs ρ l vs := by
  simp only [VRs]
  constructor
  · rintro ⟨v', r, h, h1, h2⟩; injection h with e1 e2; subst e1; subst e2; exact ⟨h1, h2⟩
  · rintro ⟨h1, h2⟩; exact ⟨v, vs, rfl, h1, h2⟩
theorem VRs.len : ∀ {l : List SV} {vs : List Value}, VRs ρ l vs → vs.length = l.length
  | [], _, h => by rw [vrs_nil] at h; simp [h]
  | x :: l, [], h => by simp only [VRs] at h; obtain ⟨v, r, e, _⟩ := h; cases e
  | x :: l, v :: vs, h => by rw [vrs_cons] at h; simp [h.2.len]
theorem VRs.get : ∀ {l : List SV} {vs : List Value}, VRs ρ l vs → ∀ {k : Nat} {x : SV}, l[k]? = some x → ∃ v, vs[k]? = some v ∧ VR ρ x v
  | [], _, _, k, x, e => by simp at e
  | y :: l, [], h, _, _, _ => by simp only [VRs] at h; obtain ⟨v, r, e, _⟩ := h; cases e
  | y :: l, v :: vs, h, 0, x, e => by rw [vrs_cons] at h; simp at e; subst e; exact ⟨v, rfl, h.1⟩
  | y :: l, v :: vs, h, k + 1, x, e => by rw [vrs_cons] at h; simp at e; simpa using h.2.get e
theorem VRs.app : ∀ {a : List SV} {x : List Value} {b : List SV} {y : List Value}, VRs ρ a x → VRs ρ b y → VRs ρ (a ++ b) (x ++ y)
  | [], x, b, y, h, k => by rw [vrs_nil] at h; subst h; exact k
  | p :: a, [], b, y, h, k => by simp only [VRs] at h; obtain ⟨v, r, e, _⟩ := h; cases e
  | p :: a, v :: x, b, y, h, k => by rw [vrs_cons] at h; exact vrs_cons.2 ⟨h.1, h.2.app k⟩
theorem VRs.take : ∀ {a : List SV} {x : List Value} (n : Nat), VRs ρ a x → VRs ρ (a.take n) (x.take n)
  | a, x, 0, h => by simp [vrs_nil]
  | [], x, n + 1, h => by rw [vrs_nil] at h; subst h; simp [vrs_nil]
  | p :: a, [], n + 1, h => by simp only [VRs] at h; obtain ⟨v, r, e, _⟩ := h; cases e
  | p :: a, v :: x, n + 1, h => by rw [vrs_cons] at h; simp only [List.take_succ_cons]; exact vrs_cons.2 ⟨h.1, h.2.take n⟩
theorem VRs.drop : ∀ {a : List SV} {x : List Value} (n : Nat), VRs ρ a x → VRs ρ (a.drop n) (x.drop n)
  | a, x, 0, h => h
  | [], x, n + 1, h => by rw [vrs_nil] at h; subst h; simp [vrs_nil]
  | p :: a, [], n + 1, h => by simp only [VRs] at h; obtain ⟨v, r, e, _⟩ := h; cases e
  | p :: a, v :: x, n + 1, h => by rw [vrs_cons] at h; simpa using h.2.drop n
theorem VRs.rep {z : List SV} {x : List Value} (h : VRs ρ z x) : ∀ n, VRs ρ (repZ z n) ((List.replicate n x).flatten)
  | 0 => by simp [repZ, vrs_nil]
  | n + 1 => by simp only [repZ, List.replicate_succ, List.flatten_cons]; exact h.app (VRs.rep h n)
theorem repZ_len (z : List SV) : ∀ n, (repZ z n).length = n * z.length
  | 0 => by simp [repZ]
  | n + 1 => by simp [repZ, repZ_len z n, Nat.add_mul, Nat.add_comm]
theorem VR.one {x : SV} {v : Value} (h : VR ρ x v) (hx : x.one = true) : v.oneCell' = true := by
  cases x <;> simp only [SV.one, VR, reduceCtorEq] at h hx
  all_goals first
    | exact h
    | (subst h; rfl)
    | (obtain ⟨rfl, _⟩ := h; rfl)
    | (obtain ⟨n, _, rfl⟩ := h; rfl)
    | (obtain ⟨a, b, _, rfl⟩ := h; rfl)
    | (obtain ⟨a, b, _, _, rfl⟩ := h; rfl)
    | (obtain ⟨a, b, _, _, _, rfl⟩ := h; rfl)
    | (obtain ⟨a, b, _, _, _, _, rfl⟩ := h; rfl)
theorem allOne_spec : ∀ {l : List SV} {x : List Value}, allOne l = true → VRs ρ l x → ∀ v ∈ x, v.oneCell' = true
  | [], x, _, h => by rw [vrs_nil] at h; subst h; simp
  | p :: a, [], _, h => by simp
  | p :: a, v :: x, ho, h => by
    rw [vrs_cons] at h
    unfold allOne at ho
    split at ho
    · rename_i hp
      intro u hu
      rcases List.mem_cons.1 hu with rfl | hu
      · exact h.1.one hp
      · exact allOne_spec ho h.2 u hu
    · cases ho
end lists

/-! ### Blocks and worlds -/
def ER (ρ : Ren) : List (SV × SV × Nat) → List MapEntry → Prop
  | [], es => es = []
  | (x, v, b) :: l, es => ∃ e r, es = e :: r ∧ VR ρ x e.key ∧ VR ρ v e.val ∧ e.born = b ∧ ER ρ l r
theorem ER.mono {ρ σ : Ren} (h : ρ.le σ) : ∀ {l : List (SV × SV × Nat)} {es : List MapEntry}, ER ρ l es → ER σ l es
  | [], _, k => k
  | (x, v, b) :: l, _, k => by obtain ⟨e, r, h1, h2, h3, h4, h5⟩ := k; exact ⟨e, r, h1, h2.mono h, h3.mono h, h4, ER.mono h h5⟩

/-- Cells: those that are named stand ahead; none of the block's is frozen. -/
def BR (ρ : Ren) : LB → Obj → Prop
  | .cells l _, o => ∃ a b e fz, VRs ρ l a ∧ o = .cells (a ++ b).toArray e fz ∧ ∀ k, k < (a ++ b).length → ¬(fz.1 ≤ k ∧ k < fz.2)
  | .map es k, o => ∃ l, ER ρ es l ∧ o = .map l.toArray k
  | .it l p, o => o = .stringIter (bs l) p ∧ ∀ x ∈ l, x < 256
theorem BR.mono {ρ σ : Ren} (h : ρ.le σ) : ∀ {x : LB} {o : Obj}, BR ρ x o → BR σ x o
  | .cells _ _, _, ⟨a, b, e, fz, h1, h2, h3⟩ => ⟨a, b, e, fz, h1.mono h, h2, h3⟩
  | .map _ _, _, ⟨l, h1, h2⟩ => ⟨l, h1.mono h, h2⟩
  | .it _ _, _, k => k

structure Cx where
  E : Env
  w0 : World

structure MR (X : Cx) (F : Nat → Prop) (ρ : Ren) (H : TR LB) (w : World) : Prop where
  hp : ∀ b x, F b → H.get b = some x → ∃ n o, ρ.r b n ∧ w.heap[n]? = some o ∧ BR ρ x o
  dd : ∀ b, F b → ρ.d b → H.get b = none
  fn : ∀ b n m, ¬ρ.d b → ρ.r b n → ρ.r b m → n = m
  ij : ∀ b c n, ¬ρ.d b → ¬ρ.d c → ρ.r b n → ρ.r c n → b = c
  rg : ∀ b n, ¬ρ.d b → ρ.r b n → n < w.heap.size
  lo : ∀ b n, ¬ρ.d b → ρ.r b n → X.E.ng ≤ b → X.w0.heap.size ≤ n
  gl : ∀ g, g < X.E.ng → ρ.r g g ∧ ¬ρ.d g
  cp : ∀ b n l e k z, F b → H.get b = some (.cells l e) → ρ.r b n → ρ.q b k → sizeT X.E.P e = some z → ∃ c e' fz, w.heap[n]? = some (.cells c e' fz) ∧ k * z ≤ c.size
  bl : Below X.w0.heap.size X.w0 w

/-- What a step does to the names and to the world: 'm' the names written to; new names from c on, below c'. -/
structure Stp (m c c' : Nat) (H' : TR LB) (ρ σ : Ren) (w w' : World) : Prop where
  le : ρ.le σ
  nr : ∀ b n, σ.r b n → ¬σ.d b → ρ.r b n ∨ (c ≤ b ∧ b < c' ∧ (w.heap.size ≤ n ∨ ∃ k, m.testBit k = true ∧ ¬ρ.d k ∧ ρ.r k n))
  nd : ∀ b, σ.d b → ρ.d b ∨ (b < c' ∧ m.testBit b = true ∧ H'.get b = none)
  nq : ∀ b n, σ.q b n → ρ.q b n ∨ (c ≤ b ∧ b < c')
  sz : w.heap.size ≤ w'.heap.size
  un : ∀ n, n < w.heap.size → (∀ k, m.testBit k = true → ¬ρ.d k → ¬ρ.r k n) → w'.heap[n]? = w.heap[n]?
  st : w'.os = w.os ∧ w'.tape = w.tape ∧ w'.output = w.output

/-- What the evaluator itself does. -/
structure Ext (S S' : St) : Prop where
  c : S.c ≤ S'.c
  r : ∀ b, S.r.testBit b = true → S'.r.testBit b = true
  w : ∀ b, S.w.testBit b = true → S'.w.testBit b = true
  h : ∀ b, b < S.c → S'.w.testBit b = false → S'.H.get b = S.H.get b
  n : ∀ b, b < S.c → S.H.get b = none → S'.H.get b = none
  g : S'.ng = S.ng
  t : S'.T = S.T ∧ S'.nt = S.nt
theorem Ext.refl (S : St) : Ext S S := ⟨Nat.le_refl _, fun _ h => h, fun _ h => h, fun _ _ _ => rfl, fun _ _ h => h, rfl, rfl, rfl⟩
theorem Ext.trans {a b c : St} (h : Ext a b) (k : Ext b c) : Ext a c :=
  ⟨Nat.le_trans h.c k.c, fun x hx => k.r _ (h.r _ hx), fun x hx => k.w _ (h.w _ hx), fun x hx hw => by
    rw [k.h x (Nat.lt_of_lt_of_le hx h.c) hw, h.h x hx (by
      rcases e : b.w.testBit x with _ | _
      · rfl
      · rw [k.w x e] at hw; cases hw)], fun x hx hn => k.n x (Nat.lt_of_lt_of_le hx h.c) (h.n x hx hn), k.g.trans h.g, k.t.1.trans h.t.1, k.t.2.trans h.t.2⟩

/-- The same of code: slots may turn. -/
structure Ex0 (S S' : St) : Prop where
  c : S.c ≤ S'.c
  r : ∀ b, S.r.testBit b = true → S'.r.testBit b = true
  w : ∀ b, S.w.testBit b = true → S'.w.testBit b = true
  h : ∀ b, b < S.c → S'.w.testBit b = false → S'.H.get b = S.H.get b
  n : ∀ b, b < S.c → S.H.get b = none → S'.H.get b = none
  g : S'.ng = S.ng
  nt : S'.nt = S.nt
theorem Ext.to {S S' : St} (h : Ext S S') : Ex0 S S' := ⟨h.c, h.r, h.w, h.h, h.n, h.g, h.t.2⟩
theorem Ex0.refl (S : St) : Ex0 S S := (Ext.refl S).to
theorem Ex0.trans {a b c : St} (h : Ex0 a b) (k : Ex0 b c) : Ex0 a c :=
  ⟨Nat.le_trans h.c k.c, fun x hx => k.r _ (h.r _ hx), fun x hx => k.w _ (h.w _ hx), fun x hx hw => by
    rw [k.h x (Nat.lt_of_lt_of_le hx h.c) hw, h.h x hx (by
      rcases e : b.w.testBit x with _ | _
      · rfl
      · rw [k.w x e] at hw; cases hw)], fun x hx hn => k.n x (Nat.lt_of_lt_of_le hx h.c) (h.n x hx hn), k.g.trans h.g, k.nt.trans h.nt⟩

def Frsh (ρ : Ren) (c c' : Nat) : Prop := ∀ b, c ≤ b → b < c' → ¬ρ.d b ∧ ∀ n, ¬ρ.r b n ∧ ¬ρ.q b n

theorem Stp.refl {m c : Nat} {H : TR LB} {ρ : Ren} {w : World} : Stp m c c H ρ ρ w w :=
  ⟨.refl _, fun _ _ h _ => .inl h, fun _ h => .inl h, fun _ _ h => .inl h, Nat.le_refl _, fun _ _ _ => rfl, rfl, rfl, rfl⟩
theorem Stp.trans {m m' c c' c'' : Nat} {H H' : TR LB} {ρ σ τ : Ren} {w w' w'' : World} (h : Stp m c c' H ρ σ w w') (k : Stp m' c' c'' H' σ τ w' w'')
    (hm : ∀ b, m.testBit b = true → m'.testBit b = true) (hc : c ≤ c') (hc' : c' ≤ c'') (hn : ∀ b, b < c' → H.get b = none → H'.get b = none) : Stp m' c c'' H' ρ τ w w'' where
  le := h.le.trans k.le
  nr b n hr hd := by
    rcases k.nr b n hr hd with h1 | ⟨h1, h2, h3⟩
    · rcases h.nr b n h1 (fun e => hd (k.le.d _ e)) with h2 | ⟨h2, h3, h4⟩
      · exact .inl h2
      · refine .inr ⟨h2, by omega, h4.imp id ?_⟩
        rintro ⟨q, a1, a2⟩
        exact ⟨q, hm _ a1, a2⟩
    · refine .inr ⟨by omega, h2, ?_⟩
      rcases h3 with h3 | ⟨q, a1, a2, a3⟩
      · exact .inl (Nat.le_trans h.sz h3)
      · rcases h.nr q n a3 a2 with h4 | ⟨h4, h5, h6⟩
        · exact .inr ⟨q, a1, fun e => a2 (h.le.d _ e), h4⟩
        · refine h6.imp id ?_
          rintro ⟨q', b1, b2⟩
          exact ⟨q', hm _ b1, b2⟩
  nd b hd := by
    rcases k.nd b hd with h1 | h1
    · rcases h.nd b h1 with h2 | ⟨h2, h3, h4⟩
      · exact .inl h2
      · exact .inr ⟨by omega, hm _ h3, hn b h2 h4⟩
    · exact .inr h1
  nq b n hr := by
    rcases k.nq b n hr with h1 | h1
    · exact (h.nq b n h1).imp id fun h2 => ⟨h2.1, by omega⟩
    · exact .inr ⟨by omega, h1.2⟩
  sz := Nat.le_trans h.sz k.sz
  un n hn' hk := by
    rw [k.un n (Nat.lt_of_lt_of_le hn' h.sz) (fun q a1 a2 a3 => by
      rcases h.nr q n a3 a2 with h4 | ⟨h4, h5, h6⟩
      · exact hk q a1 (fun e => a2 (h.le.d _ e)) h4
      · rcases h6 with h6 | ⟨q', b1, b2, b3⟩
        · omega
        · exact hk q' (hm _ b1) b2 b3), h.un n hn' (fun q a1 a2 a3 => hk q (hm _ a1) a2 a3)]
  st := ⟨k.st.1.trans h.st.1, k.st.2.1.trans h.st.2.1, k.st.2.2.trans h.st.2.2⟩
theorem Stp.frsh {m c c' c'' : Nat} {H : TR LB} {ρ σ : Ren} {w w' : World} (h : Stp m c c' H ρ σ w w') (hf : Frsh ρ c c'') (hc : c ≤ c') : Frsh σ c' c'' := by
  intro b h1 h2
  have h3 := hf b (by omega) h2
  have h4 : ¬σ.d b := fun e => by
    rcases h.nd b e with h5 | ⟨h5, _⟩
    · exact h3.1 h5
    · omega
  refine ⟨h4, fun n => ⟨fun e => ?_, fun e => ?_⟩⟩
  · rcases h.nr b n e h4 with h5 | ⟨_, h5, _⟩
    · exact (h3.2 n).1 h5
    · omega
  · rcases h.nq b n e with h5 | ⟨_, h5⟩
    · exact (h3.2 n).2 h5
    · omega
theorem MR.sub {X : Cx} {F G : Nat → Prop} {ρ : Ren} {H : TR LB} {w : World} (h : MR X F ρ H w) (hs : ∀ b, G b → F b) : MR X G ρ H w :=
  ⟨fun b x hb => h.hp b x (hs b hb), fun b hb => h.dd b (hs b hb), h.fn, h.ij, h.rg, h.lo, h.gl, fun b n l e k z hb => h.cp b n l e k z (hs b hb), h.bl⟩

/-! ### The marks -/
theorem bit_lor (m b k : Nat) : (Nat.lor m (Nat.shiftLeft 1 b)).testBit k = (m.testBit k || decide (k = b)) := by
  have : Nat.lor m (Nat.shiftLeft 1 b) = m ||| (1 <<< b) := rfl
  rw [this, Nat.testBit_or, Nat.one_shiftLeft, Nat.testBit_two_pow]
  congr 1
  simp [eq_comm]

theorem ext_saw (S : St) (b : Nat) : Ext S (S.saw b) :=
  ⟨Nat.le_refl _, fun k h => by show (Nat.lor S.r (Nat.shiftLeft 1 b)).testBit k = true; rw [bit_lor, h]; rfl, fun _ h => h, fun _ _ _ => rfl, fun _ _ h => h, rfl, rfl, rfl⟩
theorem ext_wr (S : St) (b : Nat) (x : Option LB) (hx : S.H.get b ≠ none ∨ x = none) : Ext S (S.wr b x) where
  c := Nat.le_refl _
  r := fun _ h => h
  w := fun k h => by show (Nat.lor S.w (Nat.shiftLeft 1 b)).testBit k = true; rw [bit_lor, h]; rfl
  h := fun k hk hw => by
    have hw : (Nat.lor S.w (Nat.shiftLeft 1 b)).testBit k = false := hw
    rw [bit_lor] at hw
    show (S.H.set (b + 1) b x).get k = _
    rw [tr_get_set _ _ _ _ _ (Nat.lt_succ_self _), if_neg (by intro e; simp [e] at hw)]
  n := fun k hk hn => by
    show (S.H.set (b + 1) b x).get k = _
    rw [tr_get_set _ _ _ _ _ (Nat.lt_succ_self _)]
    split
    · rename_i e
      subst e
      rcases hx with hx | hx
      · exact absurd hn hx
      · exact hx
    · exact hn
  g := rfl
  t := ⟨rfl, rfl⟩
theorem ext_new (S : St) (x : LB) : Ext S (S.new x) where
  c := Nat.le_succ _
  r := fun _ h => h
  w := fun _ h => h
  h := fun k hk _ => by
    show (S.H.set (S.c + 1) S.c (some x)).get k = _
    rw [tr_get_set _ _ _ _ _ (Nat.lt_succ_self _), if_neg (by omega)]
  n := fun k hk hn => by
    show (S.H.set (S.c + 1) S.c (some x)).get k = _
    rw [tr_get_set _ _ _ _ _ (Nat.lt_succ_self _), if_neg (by omega), hn]
  g := rfl
  t := ⟨rfl, rfl⟩

end Go.Proofs.YtndpcphmndfajaaGreatDoor

namespace Go.Proofs.YtndpcphmndfajaaGreatDoor
open Go.RowKit
set_option linter.unusedVariables false
set_option linter.unusedSimpArgs false

/-! ### Numbers -/
theorem modN_eq (k : IntKind) : modN k = 2 ^ k.bits := by cases k <;> decide
theorem lowN_eq (k : IntKind) (x : Int) : (lowN k x : Int) = x % (2 ^ k.bits : Int) := by
  have hm : (2 ^ k.bits : Int) = (modN k : Int) := by rw [modN_eq]; simp
  have hp : 0 < modN k := by cases k <;> decide
  rw [hm]
  cases x with
  | ofNat m => simp only [lowN]; exact (Int.natCast_emod m (modN k))
  | negSucc m =>
    simp only [lowN]
    have h1 : Nat.mod m (modN k) < modN k := Nat.mod_lt _ hp
    have e : Nat.mod m (modN k) = m % modN k := rfl
    have e2 : Nat.sub (Nat.sub (modN k) 1) (Nat.mod m (modN k)) = modN k - 1 - m % modN k := rfl
    rw [e2]
    rw [Int.negSucc_emod _ (by omega)]
    omega
theorem lowN_lt (k : IntKind) (x : Int) : lowN k x < 2 ^ k.bits := by
  have h := lowN_eq k x
  have hp : (0 : Int) < 2 ^ k.bits := Int.pow_pos (by decide)
  have h2 := Int.emod_lt_of_pos x hp
  rw [← h] at h2
  exact_mod_cast h2
theorem wrapE_eq (k : IntKind) (x : Int) : wrapE k x = k.wrap x := by
  have h := lowN_eq k x
  have hl := lowN_lt k x
  unfold wrapE IntKind.wrap sgnN
  simp only [← h]
  have hM := modN_eq k
  cases hb : Nat.ble (halfN k) (lowN k x) with
  | true =>
    have hb2 := Nat.le_of_ble_eq_true hb
    have e2 : Nat.sub (Nat.sub (modN k) 1) (lowN k x) = modN k - 1 - lowN k x := rfl
    rw [e2]
    cases k <;> simp only [halfN, modN, IntKind.bits, IntKind.signed] at hb2 hl hM ⊢ <;> simp <;> omega
  | false =>
    have hb2 : ¬ halfN k ≤ lowN k x := fun e => by rw [Nat.ble_eq_true_of_le e] at hb; cases hb
    cases k <;> simp only [halfN, modN, IntKind.bits, IntKind.signed] at hb2 hl ⊢ <;> simp <;> omega
theorem sgnN_eq (k : IntKind) (n : Nat) (h : n < 2 ^ k.bits) : sgnN k n = k.wrap n := by
  rw [← wrapE_eq]
  unfold wrapE
  congr 1
  simp only [lowN]
  have : Nat.mod n (modN k) = n % modN k := rfl
  rw [this, modN_eq, Nat.mod_eq_of_lt h]
theorem eqI_eq (a b : Int) : eqI a b = decide (a = b) := by
  have hn : ∀ x y : Nat, x.beq y = decide (x = y) := fun x y => by
    by_cases h : x = y
    · subst h; simp
    · rw [decide_eq_false h]
      rcases e : x.beq y with _ | _
      · rfl
      · exact absurd (Nat.eq_of_beq_eq_true e) h
  cases a <;> cases b <;> simp only [eqI, hn] <;> simp <;> (try (simp only [decide_eq_decide]; omega)) <;> omega
theorem leI_eq (a b : Int) : leI a b = decide (a ≤ b) := by
  cases a <;> cases b <;> simp only [leI]
  · rename_i x y
    by_cases h : x ≤ y
    · rw [Nat.ble_eq_true_of_le h]; simp; omega
    · have : Nat.ble x y = false := by rcases e : Nat.ble x y with _ | _; · rfl
                                       · exact absurd (Nat.le_of_ble_eq_true e) h
      rw [this]; simp; omega
  · rename_i x y; simp; omega
  · rename_i x y; simp; omega
  · rename_i x y
    by_cases h : y ≤ x
    · rw [Nat.ble_eq_true_of_le h]; simp; omega
    · have : Nat.ble y x = false := by rcases e : Nat.ble y x with _ | _; · rfl
                                       · exact absurd (Nat.le_of_ble_eq_true e) h
      rw [this]; simp; omega
theorem eqK_eq {a b : IntKind} (h : eqK a b = true) : a = b := by cases a <;> cases b <;> first | rfl | cases h
theorem ofInt_toNat (k : IntKind) (x : Int) : (BitVec.ofInt k.bits x).toNat = lowN k x := by
  rw [BitVec.toNat_ofInt]
  have h := lowN_eq k x
  have e : ((2 ^ k.bits : Nat) : Int) = (2 ^ k.bits : Int) := by simp
  rw [e, ← h]
  simp
theorem bits_pos (k : IntKind) : (2 : Nat) ^ k.bits = modN k := (modN_eq k).symm

theorem evInt_ok {P : Program} {w : World} {ρ : Ren} {op : BinOp} {k : IntKind} {a b : Int} {v : SV} (t : TypeId) (hs : op ≠ .shl ∧ op ≠ .shr)
    (h : evInt op k a b = some v) : ∃ u, (binOp op t (.int k a) (.int k b)).run P w = .ok u w ∧ VR ρ v u := by
  have hla := lowN_lt k a
  have hlb := lowN_lt k b
  cases op <;> simp only [evInt, evQuo, evRem, Option.some.injEq, reduceCtorEq] at h <;> simp only [binOp, ne_eq, not_true_eq_false, ite_false]
  case add => subst h; exact ⟨_, rfl, by simp only [VR, wrapE_eq]; rfl⟩
  case sub => subst h; exact ⟨_, rfl, by simp only [VR, wrapE_eq]; rfl⟩
  case mul => subst h; exact ⟨_, rfl, by simp only [VR, wrapE_eq]; rfl⟩
  case quo =>
    rw [eqI_eq] at h
    by_cases hb : b = Int.ofNat 0
    · subst hb; simp [evQuo] at h
    · rw [decide_eq_false hb] at h
      simp only [evQuo, Option.some.injEq] at h
      subst h
      exact ⟨.int k (k.wrap (a.tdiv b)), by have hb : ¬ b = 0 := hb; simp [Op.intDiv, hb], by simp only [VR, wrapE_eq]⟩
  case rem =>
    rw [eqI_eq] at h
    by_cases hb : b = Int.ofNat 0
    · subst hb; simp [evRem] at h
    · rw [decide_eq_false hb] at h
      simp only [evRem, Option.some.injEq] at h
      subst h
      exact ⟨.int k (a.tmod b), by have hb : ¬ b = 0 := hb; simp [Op.intDiv, hb], by simp only [VR]⟩
  case and =>
    subst h
    refine ⟨_, rfl, ?_⟩
    have e : Nat.land (lowN k a) (lowN k b) = lowN k a &&& lowN k b := rfl
    simp only [VR]
    rw [e, sgnN_eq _ _ (Nat.and_lt_two_pow _ hlb), BitVec.toNat_and, ofInt_toNat, ofInt_toNat]
  case or =>
    subst h
    refine ⟨_, rfl, ?_⟩
    have e : Nat.lor (lowN k a) (lowN k b) = lowN k a ||| lowN k b := rfl
    simp only [VR]
    rw [e, sgnN_eq _ _ (Nat.or_lt_two_pow hla hlb), BitVec.toNat_or, ofInt_toNat, ofInt_toNat]
  case xor =>
    subst h
    refine ⟨_, rfl, ?_⟩
    have e : Nat.xor (lowN k a) (lowN k b) = lowN k a ^^^ lowN k b := rfl
    simp only [VR]
    rw [e, sgnN_eq _ _ (Nat.xor_lt_two_pow hla hlb), BitVec.toNat_xor, ofInt_toNat, ofInt_toNat]
  case andNot =>
    subst h
    refine ⟨_, rfl, ?_⟩
    have e : Nat.land (lowN k a) (Nat.sub (Nat.sub (modN k) 1) (lowN k b)) = lowN k a &&& (2 ^ k.bits - 1 - lowN k b) := by rw [← modN_eq]; rfl
    simp only [VR]
    rw [e, sgnN_eq _ _ (Nat.lt_of_le_of_lt Nat.and_le_left hla), BitVec.toNat_and, BitVec.toNat_not, ofInt_toNat, ofInt_toNat]
  case eql => subst h; exact ⟨.bool (a == b), rfl, by simp only [VR, eqI_eq]; congr 1⟩
  case neq => subst h; exact ⟨.bool (a != b), rfl, by simp only [VR, eqI_eq]; congr 1⟩
  case lss => subst h; refine ⟨.bool (decide (a < b)), rfl, ?_⟩; simp only [VR, leI_eq]; congr 1; rw [← decide_not]; try simp
  case leq => subst h; exact ⟨.bool (decide (a ≤ b)), rfl, by simp only [VR, leI_eq]⟩
  case gtr => subst h; refine ⟨.bool (decide (a > b)), rfl, ?_⟩; simp only [VR, leI_eq]; congr 1; rw [← decide_not]; try simp
  case geq => subst h; exact ⟨.bool (decide (a ≥ b)), rfl, by simp only [VR, leI_eq]; try rfl⟩

theorem bitsN_eq (k : IntKind) : bitsN k = k.bits := by cases k <;> rfl
theorem minN_eq (a b : Nat) : minN a b = min a b := by
  unfold minN
  cases h : Nat.ble a b with
  | true => have := Nat.le_of_ble_eq_true h; simp; omega
  | false => have : ¬ a ≤ b := fun e => by rw [Nat.ble_eq_true_of_le e] at h; cases h
             simp; omega
theorem evShl_ok {P : Program} {w : World} {ρ : Ren} {k yk : IntKind} {a b : Int} {v : SV} (t : TypeId) (h : evShl b k a = some v) :
    ∃ u, (binOp .shl t (.int k a) (.int yk b)).run P w = .ok u w ∧ VR ρ v u := by
  cases b with
  | negSucc b => cases h
  | ofNat b =>
    simp only [evShl, Option.some.injEq] at h
    subst h
    refine ⟨.int k (k.wrap (a * 2 ^ (min b k.bits))), ?_, ?_⟩
    · have : ¬ ((b : Int) < 0) := by omega
      simp [binOp, Op.shift, this]
    · simp only [VR, wrapE_eq, minN_eq, bitsN_eq]
      congr 2
theorem evShr_ok {P : Program} {w : World} {ρ : Ren} {k yk : IntKind} {a b : Int} {v : SV} (t : TypeId) (h : evShr b k a = some v) :
    ∃ u, (binOp .shr t (.int k a) (.int yk b)).run P w = .ok u w ∧ VR ρ v u := by
  cases b with
  | negSucc b => cases h
  | ofNat b =>
    simp only [evShr, Option.some.injEq] at h
    subst h
    refine ⟨.int k (a.fdiv (2 ^ (min b k.bits))), ?_, ?_⟩
    · have : ¬ ((b : Int) < 0) := by omega
      simp [binOp, Op.shift, this]
    · simp only [VR, minN_eq, bitsN_eq]
      congr 2

/-! ### Texts -/
theorem bs_size (l : List Nat) : (bs l).size = l.length := by simp [bs, ByteArray.size]
theorem bs_data (l : List Nat) : (bs l).data.toList = l.map UInt8.ofNat := by simp [bs]
theorem ba_ext {a b : ByteArray} (h : a.data.toList = b.data.toList) : a = b := by
  cases a; cases b; congr; exact Array.toList_inj.1 h
theorem u8_toNat {n : Nat} (h : n < 256) : (UInt8.ofNat n).toNat = n := by simp [UInt8.toNat_ofNat', Nat.mod_eq_of_lt h]
theorem bs_back {l : List Nat} (h : ∀ x ∈ l, x < 256) : (bs l).data.toList.map UInt8.toNat = l := by
  rw [bs_data, List.map_map]
  conv => rhs; rw [← List.map_id l]
  exact List.map_congr_left fun x hx => u8_toNat (h x hx)
theorem bs_of (s : ByteArray) : bs (s.data.toList.map UInt8.toNat) = s := by
  apply ba_ext
  rw [bs_data, List.map_map]
  conv => rhs; rw [← List.map_id s.data.toList]
  exact List.map_congr_left fun x _ => by simp
theorem toNat_lt256 (s : List UInt8) : ∀ x ∈ s.map UInt8.toNat, x < 256 := by
  intro x hx
  obtain ⟨u, _, rfl⟩ := List.mem_map.1 hx
  exact u.toNat_lt
theorem eqN_eq : ∀ (a b : List Nat), eqN a b = decide (a = b)
  | [], [] => by simp [eqN]
  | [], _ :: _ => by simp [eqN]
  | _ :: _, [] => by simp [eqN]
  | a :: x, b :: y => by
    unfold eqN
    cases h : Nat.beq a b with
    | true =>
      have := Nat.eq_of_beq_eq_true h
      subst this
      simp [eqN_eq x y]
    | false =>
      have : a ≠ b := fun e => by subst e; simp at h
      simp [this]
theorem bs_inj {a b : List Nat} (ha : ∀ x ∈ a, x < 256) (hb : ∀ x ∈ b, x < 256) : bs a = bs b ↔ a = b :=
  ⟨fun h => by rw [← bs_back ha, ← bs_back hb, h], fun h => by rw [h]⟩
theorem bs_append (a b : List Nat) : bs a ++ bs b = bs (a ++ b) := by
  apply ba_ext
  simp [bs_data]
theorem bs_toList_eq (a b : ByteArray) : (a.toList == b.toList) = decide (a = b) := by
  have : ∀ s : ByteArray, s.toList = s.data.toList := fun s => ByteArray.toList_eq s
  rw [this, this]
  by_cases h : a = b
  · subst h; simp
  · rw [decide_eq_false h]
    simp only [beq_eq_false_iff_ne, ne_eq]
    exact fun e => h (ba_ext e)

theorem evBinS_ok {P : Program} {w : World} {ρ : Ren} {op : BinOp} {a b : List Nat} {v : SV} (t : TypeId) (ha : ∀ x ∈ a, x < 256) (hb : ∀ x ∈ b, x < 256)
    (h : evBinS op a b = some v) : ∃ u, (binOp op t (.string (bs a)) (.string (bs b))).run P w = .ok u w ∧ VR ρ v u := by
  cases op <;> simp only [evBinS, reduceCtorEq] at h
  case add =>
    cases hl : Nat.ble (Nat.add a.length b.length) 1152921504606846976 with
    | false => rw [hl] at h; cases h
    | true =>
      rw [hl] at h
      simp only [addS, Option.some.injEq] at h
      subst h
      have hl2 : a.length + b.length ≤ 1152921504606846976 := Nat.le_of_ble_eq_true hl
      refine ⟨.string (bs (a ++ b)), ?_, ?_⟩
      · have : ¬ (((bs a).size + (bs b).size : Nat) : Int) > IntKind.i64.max := by
          rw [bs_size, bs_size]
          have : IntKind.i64.max = 9223372036854775807 := by decide
          rw [this]; omega
        simp only [binOp, Op.stringOp, this, if_false, bs_append]
        rfl
      · simp only [VR, true_and]
        intro x hx
        rcases List.mem_append.1 hx with h | h
        · exact ha x h
        · exact hb x h
  case eql =>
    simp only [Option.some.injEq] at h
    subst h
    refine ⟨.bool ((bs a).toList == (bs b).toList), rfl, ?_⟩
    simp only [VR, bs_toList_eq, eqN_eq, decide_eq_decide.2 (bs_inj ha hb)]
  case neq =>
    simp only [Option.some.injEq] at h
    subst h
    refine ⟨.bool !((bs a).toList == (bs b).toList), rfl, ?_⟩
    simp only [VR, bs_toList_eq, eqN_eq, decide_eq_decide.2 (bs_inj ha hb)]

/-! ### Types, parts -/
section
variable {P : Program} {w : World} {ρ : Ren} {t : TypeId}
theorem run_und {d : TypeDesc} (h : P.underlying t = some d) : (underlying t).run P w = .ok d w := by simp [underlying, h]
theorem run_info {i : TypeInfo} (h : P.info? t = some i) : (typeInfo t).run P w = .ok i w := by simp [typeInfo, h]
theorem run_size {n : Nat} (h : sizeT P t = some n) : (sizeOf t).run P w = .ok n w := by
  unfold sizeT at h
  cases hi : P.info? t with
  | none => rw [hi] at h; cases h
  | some i => rw [hi] at h; simp only [Option.map_some, Option.some.injEq] at h; simp [sizeOf, run_info hi, h]
theorem run_agg {b : Bool} (h : aggT P t = some b) : (isAgg t).run P w = .ok b w := by
  unfold aggT at h
  cases hd : P.underlying t with
  | none => rw [hd] at h; cases h
  | some d =>
    rw [hd] at h
    simp only [isAgg, Sem.run_bind, run_und hd, Result.andThen_ok]
    cases d <;> simp only [Option.some.injEq] at h <;> subst h <;> rfl

theorem ofV1_ok : ∀ {v : Value} {x : SV}, ofV1 v = some x → VR ρ x v := by
  intro v x h
  unfold ofV1 at h
  split at h <;> simp only [Option.some.injEq, reduceCtorEq] at h <;> subst h <;> simp only [VR]
  rename_i s
  exact ⟨by rw [bs_of], toNat_lt256 _⟩
theorem ofVs_ok : ∀ {l : List Value} {x : List SV}, ofVs l = some x → VRs ρ x l
  | [], x, h => by simp only [ofVs, Option.some.injEq] at h; subst h; simp [vrs_nil]
  | v :: l, x, h => by
    unfold ofVs at h
    split at h
    · rename_i a b h1 h2
      simp only [Option.some.injEq] at h
      subst h
      exact vrs_cons.2 ⟨ofV1_ok h1, ofVs_ok h2⟩
    · cases h
theorem ofV_ok {v : Value} {x : SV} (h : ofV v = some x) : VR ρ x v := by
  unfold ofV at h
  split at h
  · rename_i cs
    cases hc : ofVs cs.toList with
    | none => rw [hc] at h; cases h
    | some l =>
      rw [hc] at h
      simp only [Option.map_some, Option.some.injEq] at h
      subst h
      simp only [VR]
      exact ⟨cs.toList, ofVs_ok hc, rfl⟩
  · rename_i cs
    split at h
    · rename_i hcs
      simp only [Option.some.injEq] at h
      subst h
      simp only [VR, undef]
      congr 1
      exact Array.toList_eq_nil_iff.1 hcs
    · cases h
  · exact ofV1_ok h
theorem run_zero {z : List SV} (h : zeroT P t = some z) : ∃ v, (zeroValue t).run P w = .ok v w ∧ VRs ρ z v.cells.toList := by
  unfold zeroT at h
  cases hi : P.info? t with
  | none => rw [hi] at h; cases h
  | some i =>
    rw [hi] at h
    simp only at h
    cases hz : i.zero with
    | none => rw [hz] at h; cases h
    | some v =>
      rw [hz] at h
      exact ⟨v, by simp [zeroValue, run_info hi, hz], ofVs_ok h⟩

theorem extract_toList (vs : List Value) (o n : Nat) : vs.toArray.extract o (o + n) = ((vs.drop o).take n).toArray := by
  apply Array.toList_inj.1
  simp
theorem evPart_ok {cs : List SV} {off : Nat} {x : SV} {vs : List Value} (h : evPart P t cs off = some x) (hv : VRs ρ cs vs) :
    ∃ v, (part t vs.toArray off).run P w = .ok v w ∧ VR ρ x v := by
  unfold evPart at h
  cases ha : aggT P t with
  | none => rw [ha] at h; cases h
  | some b =>
    rw [ha] at h
    cases b with
    | true =>
      simp only [partK] at h
      cases hs : sizeT P t with
      | none => rw [hs] at h; cases h
      | some n =>
        rw [hs] at h
        simp only [partA, Option.some.injEq] at h
        subst h
        refine ⟨.agg ((vs.drop off).take n).toArray, ?_, ?_⟩
        · simp [part, run_agg ha, run_size hs, extract_toList]
        · simp only [VR]
          exact ⟨_, (hv.drop off).take n, rfl⟩
    | false =>
      simp only [partK] at h
      obtain ⟨v, h1, h2⟩ := hv.get h
      exact ⟨v, by simp [part, run_agg ha, h1], h2⟩
end

end Go.Proofs.YtndpcphmndfajaaGreatDoor

namespace Go.Proofs.YtndpcphmndfajaaGreatDoor
open Go.RowKit
set_option linter.unusedVariables false
set_option linter.unusedSimpArgs false

section
variable {P : Program} {w : World} {ρ : Ren}

/-- The elements of two arrays, one by one. -/
def eqEsM (D : Nat) (e : TypeId) (z : Nat) (xs ys : Array Value) : List Nat → Sem Bool
  | [] => pure true
  | i :: is => do
    let a ← part e xs (i * z)
    let b ← part e ys (i * z)
    let r ← Op.equalIn D e a b
    if (!r) = true then pure false else eqEsM D e z xs ys is

theorem run_equalIn_array (D n : Nat) (t e : TypeId) (z : Nat) (xs ys : Array Value) (ht : P.underlying t = some (.array n e)) (hz : sizeT P e = some z) :
    (Op.equalIn (D + 1) t (.agg xs) (.agg ys)).run P w = (eqEsM D e z xs ys (List.range n)).run P w := by
  simp only [Op.equalIn, Sem.run_bind, run_und ht, run_size hz, Result.andThen_ok, Std.Legacy.Range.forIn_eq_forIn_range', Std.Legacy.Range.size, Nat.sub_zero, Nat.add_sub_cancel, Nat.div_one, Nat.add_one_sub_one, List.range_eq_range']
  generalize List.range' 0 n = is
  clear ht
  induction is generalizing w with
  | nil => simp [eqEsM]
  | cons i is ih =>
    simp only [List.forIn_cons, eqEsM, Sem.run_bind, Sem.run_ite]
    generalize (part e xs (i * z)).run P w = r1
    cases r1 with
    | ok a w1 =>
      simp only [Result.andThen_ok]
      generalize (part e ys (i * z)).run P w1 = r2
      cases r2 with
      | ok b w2 =>
        simp only [Result.andThen_ok]
        generalize (Op.equalIn D e a b).run P w2 = r3
        cases r3 with
        | ok r w3 =>
          cases r
          · simp only [Result.andThen_ok, Bool.not_false, if_true, Sem.run_pure]
          · simp only [Result.andThen_ok, Bool.not_true, Bool.false_eq_true, if_false, Sem.run_pure]
            exact ih
        | halt x w3 => simp [Result.andThen]
      | halt x w2 => simp [Result.andThen]
    | halt x w1 => simp [Result.andThen]

theorem eq_ok : ∀ d : Nat,
    (∀ t x y r u v D, eqV P d t x y = some r → VR ρ x u → VR ρ y v → d ≤ D → (Op.equalIn D t u v).run P w = .ok r w) ∧
    (∀ fs xs ys r us vs D, eqFs P d fs xs ys = some r → VRs ρ xs us → VRs ρ ys vs → d ≤ D + 1 → (Op.eqFields D us.toArray vs.toArray fs).run P w = .ok r w) ∧
    (∀ e z is xs ys r us vs D, eqEs P d e z is xs ys = some r → VRs ρ xs us → VRs ρ ys vs → d ≤ D + 1 → (eqEsM D e z us.toArray vs.toArray is).run P w = .ok r w) := by
  intro d
  induction d with
  | zero => exact ⟨fun _ _ _ _ _ _ _ h => by simp [eqV] at h, fun _ _ _ _ _ _ _ h => by simp [eqFs] at h, fun _ _ _ _ _ _ _ _ _ h => by simp [eqEs] at h⟩
  | succ d ih =>
    obtain ⟨ih1, ih2, ih3⟩ := ih
    refine ⟨?_, ?_, ?_⟩
    · intro t x y r u v D h hx hy hD
      obtain ⟨D, rfl⟩ : ∃ E, D = E + 1 := ⟨D - 1, by omega⟩
      unfold eqV at h
      split at h
      · rename_i ht
        simp only [Option.some.injEq] at h
        simp only [VR] at hx hy
        subst hx; subst hy; subst h
        simp [Op.equalIn, run_und ht]
      · rename_i ht
        simp only [VR] at hx hy
        subst hx; subst hy
        split at h
        · rename_i hk
          have := eqK_eq hk
          subst this
          simp only [Option.some.injEq] at h
          subst h
          simp only [Op.equalIn, Sem.run_bind, run_und ht, Result.andThen_ok, eqI_eq]
          simp
          rfl
        · cases h
      · rename_i ht
        simp only [VR] at hx hy
        obtain ⟨rfl, hx⟩ := hx
        obtain ⟨rfl, hy⟩ := hy
        simp only [Option.some.injEq] at h
        subst h
        rw [run_equalIn_string w D _ _ _ ht, bs_toList_eq, eqN_eq, decide_eq_decide.2 (bs_inj hx hy)]
      · rename_i ht
        simp only [VR] at hx hy
        subst hx; subst hy
        simp only [Option.some.injEq] at h
        subst h
        simp [Op.equalIn, run_und ht]
      · rename_i ht
        simp only [VR] at hx hy
        obtain ⟨n, _, rfl⟩ := hy
        subst hx
        simp only [Option.some.injEq] at h
        subst h
        simp [Op.equalIn, run_und ht]
      · rename_i ht
        simp only [VR] at hx hy
        obtain ⟨n, _, rfl⟩ := hx
        subst hy
        simp only [Option.some.injEq] at h
        subst h
        simp [Op.equalIn, run_und ht]
      · rename_i ht
        simp only [VR] at hx hy
        subst hx; subst hy
        simp only [Option.some.injEq] at h
        subst h
        simp [Op.equalIn, run_und ht]
      · rename_i ht
        simp only [VR] at hx hy
        obtain ⟨m, k, _, _, _, _, rfl⟩ := hy
        subst hx
        simp only [Option.some.injEq] at h
        subst h
        simp [Op.equalIn, run_und ht]
      · rename_i ht
        simp only [VR] at hx hy
        obtain ⟨m, k, _, _, _, _, rfl⟩ := hx
        subst hy
        simp only [Option.some.injEq] at h
        subst h
        simp [Op.equalIn, run_und ht]
      · rename_i ht
        simp only [VR] at hx hy
        obtain ⟨m, k, _, rfl⟩ := hy
        subst hx
        simp only [Option.some.injEq] at h
        subst h
        simp [Op.equalIn, run_und ht]
      · rename_i ht
        simp only [VR] at hx hy
        obtain ⟨m, k, _, rfl⟩ := hx
        subst hy
        simp only [Option.some.injEq] at h
        subst h
        simp [Op.equalIn, run_und ht]
      · rename_i fs xs ys ht
        simp only [VR] at hx hy
        obtain ⟨us, hx, rfl⟩ := hx
        obtain ⟨vs, hy, rfl⟩ := hy
        split at h
        · cases h
        · rename_i hs
          have hf : P.fieldsOf t = fs := by simp [Program.fieldsOf, ht]
          rw [run_equalIn_struct w D t _ _ (by rw [hf]; exact ht) hs, hf]
          exact ih2 _ _ _ _ _ _ _ h hx hy (by omega)
      · rename_i n e xs ys ht
        simp only [VR] at hx hy
        obtain ⟨us, hx, rfl⟩ := hx
        obtain ⟨vs, hy, rfl⟩ := hy
        split at h
        · rename_i z hz
          rw [run_equalIn_array D n t e z _ _ ht hz]
          exact ih3 _ _ _ _ _ _ _ _ _ h hx hy (by omega)
        · cases h
      · cases h
    · intro fs xs ys r us vs D h hx hy hD
      cases fs with
      | nil =>
        simp only [eqFs, Option.some.injEq] at h
        subst h
        rfl
      | cons f fs =>
        unfold eqFs at h
        split at h
        · cases h
        · rename_i hn
          have hn : f.name ≠ "_" := of_decide_eq_false hn
          split at h
          · rename_i a b ha hb
            obtain ⟨u, hu1, hu2⟩ := evPart_ok (P := P) (w := w) ha hx
            obtain ⟨v, hv1, hv2⟩ := evPart_ok (P := P) (w := w) hb hy
            simp only [Op.eqFields, hn, ne_eq, not_false_eq_true, if_true, Sem.run_bind, hu1, hv1, Result.andThen_ok]
            split at h
            · rename_i he
              rw [ih1 _ _ _ _ _ _ D he hu2 hv2 (by omega)]
              simp only [Result.andThen_ok, Bool.not_true, Bool.false_eq_true, if_false]
              exact ih2 _ _ _ _ _ _ _ h hx hy (by omega)
            · rename_i he
              rw [ih1 _ _ _ _ _ _ D he hu2 hv2 (by omega)]
              simp only [Option.some.injEq] at h
              subst h
              rfl
            · cases h
          · cases h
    · intro e z is xs ys r us vs D h hx hy hD
      cases is with
      | nil =>
        simp only [eqEs, Option.some.injEq] at h
        subst h
        rfl
      | cons i is =>
        unfold eqEs at h
        split at h
        · rename_i a b ha hb
          obtain ⟨u, hu1, hu2⟩ := evPart_ok (P := P) (w := w) ha hx
          obtain ⟨v, hv1, hv2⟩ := evPart_ok (P := P) (w := w) hb hy
          simp only [eqEsM, Sem.run_bind, hu1, hv1, Result.andThen_ok]
          split at h
          · rename_i he
            rw [ih1 _ _ _ _ _ _ D he hu2 hv2 (by omega)]
            simp only [Result.andThen_ok, Bool.not_true, Bool.false_eq_true, if_false]
            exact ih3 _ _ _ _ _ _ _ _ _ h hx hy (by omega)
          · rename_i he
            rw [ih1 _ _ _ _ _ _ D he hu2 hv2 (by omega)]
            simp only [Option.some.injEq] at h
            subst h
            rfl
          · cases h
        · cases h

theorem equal_ok {d : Nat} {t : TypeId} {x y : SV} {r : Bool} {u v : Value} (h : eqV P d t x y = some r) (hx : VR ρ x u) (hy : VR ρ y v) (hd : d ≤ 10000) :
    (Op.equal t u v).run P w = .ok r w := (eq_ok d).1 _ _ _ _ _ _ _ h hx hy hd

theorem run_bind_ok {α β : Type} {x : Sem α} {f : α → Sem β} {a : α} {w w' : World} (h : x.run P w = .ok a w') : (x >>= f).run P w = (f a).run P w' := by
  rw [Sem.run_bind, h]; rfl

/-- '==' where neither side is a number, a text or a row of cells. -/
theorem plain_eq {t : TypeId} {x y : SV} {r : Bool} {a b : Value} (ox oy : Operand) (h1 : ∀ k n k' n', x = .i k n → y = .i k' n' → False) (h2 : ∀ l l', x = .s l → y = .s l' → False)
    (h3 : ∀ l l', x = .agg l → y = .agg l' → False) (hr : eqV P 2 t x y = some r) (hx : VR ρ x a) (hy : VR ρ y b) (he : (Op.equal t a b).run P w = .ok r w) :
    (do eqGuard .eql t ox oy a b; binOp .eql t a b).run P w = .ok (.bool r) w ∧ (do eqGuard .neq t ox oy a b; binOp .neq t a b).run P w = .ok (.bool (not r)) w := by
  unfold eqV at hr
  split at hr
  case h_1 => simp only [VR] at hx hy; subst hx; subst hy; constructor <;> simp [eqGuard, binOp, he]
  case h_2 => exact (h1 _ _ _ _ rfl rfl).elim
  case h_3 => exact (h2 _ _ rfl rfl).elim
  case h_12 => exact (h3 _ _ rfl rfl).elim
  case h_13 => exact (h3 _ _ rfl rfl).elim
  case h_14 => cases hr
  all_goals
    simp only [VR] at hx hy
    first
      | (subst hx; subst hy)
      | (obtain ⟨n, _, rfl⟩ := hx; subst hy)
      | (obtain ⟨n, _, rfl⟩ := hy; subst hx)
      | (obtain ⟨m, k, _, _, _, _, rfl⟩ := hx; subst hy)
      | (obtain ⟨m, k, _, _, _, _, rfl⟩ := hy; subst hx)
      | (obtain ⟨m, k, _, rfl⟩ := hx; subst hy)
      | (obtain ⟨m, k, _, rfl⟩ := hy; subst hx)
    constructor <;> simp [eqGuard, binOp, he]

/-- An operator with its guard, as the model runs it. -/
theorem evBin_ok {op : BinOp} {t : TypeId} {x y : SV} {v : SV} {a b : Value} (ox oy : Operand) (h : evBin x y P op t = some v) (hx : VR ρ x a) (hy : VR ρ y b) :
    ∃ u, (do eqGuard op t ox oy a b; binOp op t a b).run P w = .ok u w ∧ VR ρ v u := by
  unfold evBin at h
  split at h
  · rename_i k n k' n'
    simp only [VR] at hx hy
    subst hx; subst hy
    have hg : (eqGuard op t ox oy (.int k n) (.int k' n')).run P w = .ok () w := by cases op <;> simp [eqGuard]
    simp only [Sem.run_bind, hg, Result.andThen_ok]
    unfold evBinI at h
    split at h
    · exact evShl_ok t h
    · exact evShr_ok t h
    · rename_i h1 h2
      split at h
      · rename_i hk
        have := eqK_eq hk
        subst this
        exact evInt_ok t ⟨h1, h2⟩ h
      · cases h
  · rename_i l l'
    simp only [VR] at hx hy
    obtain ⟨rfl, hx⟩ := hx
    obtain ⟨rfl, hy⟩ := hy
    have hg : (eqGuard op t ox oy (.string (bs l)) (.string (bs l'))).run P w = .ok () w := by cases op <;> simp [eqGuard]
    simp only [Sem.run_bind, hg, Result.andThen_ok]
    exact evBinS_ok t hx hy h
  · rename_i l l'
    have hx' := hx
    have hy' := hy
    simp only [VR] at hx hy
    obtain ⟨us, hx, rfl⟩ := hx
    obtain ⟨vs, hy, rfl⟩ := hy
    cases hg : P.eqGuardType P.depth t with
    | true => rw [hg] at h; cases op <;> simp [evBinA] at h
    | false =>
      rw [hg] at h
      cases op <;> simp only [evBinA, reduceCtorEq] at h
      case eql =>
        rw [run_bind_ok (run_eqGuard_agg w .eql t ox oy _ _ hg)]
        cases hr : eqV P 40 t (.agg l) (.agg l') with
        | none => rw [hr] at h; cases h
        | some r =>
          rw [hr] at h
          simp only [optB, Option.some.injEq] at h
          subst h
          refine ⟨.bool r, ?_, by simp only [VR]⟩
          rw [run_eql_struct]
          have := equal_ok (w := w) hr hx' hy' (by omega)
          unfold Op.equal Op.maxDepth at this
          rw [this]
          rfl
      case neq =>
        rw [run_bind_ok (run_eqGuard_agg w .neq t ox oy _ _ hg)]
        cases hr : eqV P 40 t (.agg l) (.agg l') with
        | none => rw [hr] at h; cases h
        | some r =>
          rw [hr] at h
          simp only [optN, Option.some.injEq] at h
          subst h
          refine ⟨.bool (not r), ?_, by simp only [VR]⟩
          rw [run_neq_struct]
          have := equal_ok (w := w) hr hx' hy' (by omega)
          unfold Op.equal Op.maxDepth at this
          rw [this]
          rfl
  · rename_i h1 h2 h3
    unfold evBinX at h
    split at h
    · cases hr : eqV P 2 t x y with
      | none => rw [hr] at h; cases h
      | some r =>
        rw [hr] at h
        simp only [optB, Option.some.injEq] at h
        subst h
        have he := equal_ok (w := w) hr hx hy (by omega)
        refine ⟨.bool r, ?_, by simp only [VR]⟩
        exact (plain_eq ox oy h1 h2 h3 hr hx hy he).1
    · cases hr : eqV P 2 t x y with
      | none => rw [hr] at h; cases h
      | some r =>
        rw [hr] at h
        simp only [optN, Option.some.injEq] at h
        subst h
        have he := equal_ok (w := w) hr hx hy (by omega)
        refine ⟨.bool (not r), ?_, by simp only [VR]⟩
        exact (plain_eq ox oy h1 h2 h3 hr hx hy he).2
    · cases h
end
end Go.Proofs.YtndpcphmndfajaaGreatDoor
