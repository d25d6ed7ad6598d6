/- Subtitles (srt): two texts with an empty line between them, as plain data. -/
import Derived.Test.YtemiegbgnpcbiaaSrt8
namespace Go.Proofs.Ytemiegbgnpcbiaa
open Go.RowKit
set_option linter.unusedVariables false

theorem tx_any : ∀ (f : Nat) (l : List UInt8) (a b : Nat), l.length ≤ f → (linesOf l a).map (·.t) = (linesOf l b).map (·.t)
  | 0, l, a, b, h => by
    obtain rfl : l = [] := List.eq_nil_of_length_eq_zero (by omega)
    rfl
  | f + 1, l, a, b, h => by
    by_cases hl : l = []
    · subst hl; rfl
    · have hp := line_pos l hl
      have h2 : 0 < l.length := List.length_pos_iff.2 hl
      rw [linesOf_cons l a hl, linesOf_cons l b hl, List.map_cons, List.map_cons]
      congr 1
      exact tx_any f _ _ _ (by rw [List.length_drop]; omega)
def tx (l : List UInt8) : List (List UInt8) := (linesOf l 0).map (·.t)
theorem tx_nil : tx [] = [] := rfl
theorem tx_cons (l : List UInt8) (h : l ≠ []) : tx l = lineAt l :: tx (l.drop ((lineAt l).length + (endOf (l.drop (lineAt l).length)).length)) := by
  unfold tx
  rw [linesOf_cons l 0 h, List.map_cons, tx_any _ _ _ 0 (Nat.le_refl _)]
theorem tx_ten (b : List UInt8) : tx (10 :: b) = [] :: tx b := by
  rw [tx_cons _ (by simp)]
  have h1 : lineAt (10 :: b) = [] := by simp [lineAt, inl]
  rw [h1]
  have h2 : endOf ((10 :: b).drop ([] : List UInt8).length) = [10] := by simp [endOf]
  rw [h2]
  rfl
theorem lineAt_append (a X : List UInt8) (c : UInt8) (r : List UInt8) (h : a.drop (lineAt a).length = c :: r) : lineAt (a ++ X) = lineAt a ∧ inl c = false := by
  induction a with
  | nil => simp at h
  | cons d a ih =>
    by_cases hd : inl d = true
    · have e : lineAt (d :: a) = d :: lineAt a := by simp [lineAt, hd]
      rw [e] at h ⊢
      obtain ⟨h1, h2⟩ := ih (by simpa using h)
      refine ⟨?_, h2⟩
      rw [← h1]
      simp [lineAt, hd]
    · have hd' : inl d = false := by simpa using hd
      have e : lineAt (d :: a) = [] := by simp [lineAt, hd']
      rw [e] at h ⊢
      simp only [List.length_nil, List.drop_zero, List.cons.injEq] at h
      obtain ⟨rfl, rfl⟩ := h
      exact ⟨by simp [lineAt, hd'], hd'⟩
theorem lineAt_whole (a X : List UInt8) (h : a.drop (lineAt a).length = []) (b : List UInt8) (hX : X = 10 :: b) : lineAt (a ++ X) = a ∧ lineAt a = a := by
  subst hX
  have h2 : lineAt a = a := by
    have := lineAt_pre a
    rw [h, List.append_nil] at this
    exact this.symm
  refine ⟨?_, h2⟩
  have h3 : ∀ x ∈ a, inl x = true := by
    intro x hx
    rw [← h2] at hx
    exact List.all_eq_true.1 (List.all_takeWhile (p := inl) (l := a)) x hx
  unfold lineAt
  rw [List.takeWhile_append_of_pos h3]
  simp [inl]
theorem endOf_append (c : UInt8) (r X : List UInt8) (h : ¬ (c = 13 ∧ r = [])) : endOf (c :: (r ++ X)) = endOf (c :: r) := by
  cases r with
  | nil =>
    have hc : c ≠ 13 := fun e => h ⟨e, rfl⟩
    rw [endOf_one (c :: ([] ++ X)) c ([] ++ X) rfl (.inl hc), endOf_one [c] c [] rfl (.inl hc)]
    rfl
  | cons d r =>
    by_cases hcd : c = 13 ∧ d = 10
    · obtain ⟨rfl, rfl⟩ := hcd
      rfl
    · have hn : c ≠ 13 ∨ d ≠ 10 := by
        by_cases h1 : c = 13
        · exact .inr (fun h2 => hcd ⟨h1, h2⟩)
        · exact .inl h1
      rw [endOf_one (c :: (d :: r ++ X)) c (d :: r ++ X) rfl (by rcases hn with h1 | h2; exact .inl h1; exact .inr (by simpa using h2)), endOf_one (c :: d :: r) c (d :: r) rfl (by rcases hn with h1 | h2; exact .inl h1; exact .inr (by simpa using h2))]
      rfl
/-- the lines of two texts with an empty line between them -/
theorem tx_two : ∀ (f : Nat) (a b : List UInt8), a.length ≤ f → tx (a ++ 10 :: 10 :: b) = tx a ++ [[]] ++ tx b ∨ tx (a ++ 10 :: 10 :: b) = tx a ++ [[], []] ++ tx b
  | 0, a, b, h => by
    obtain rfl : a = [] := List.eq_nil_of_length_eq_zero (by omega)
    right
    rw [List.nil_append, tx_ten, tx_ten, tx_nil]
    rfl
  | f + 1, a, b, h => by
    by_cases ha : a = []
    · subst ha
      right
      rw [List.nil_append, tx_ten, tx_ten, tx_nil]
      rfl
    · have hp := line_pos a ha
      have h2 : 0 < a.length := List.length_pos_iff.2 ha
      have hpre := lineAt_pre a
      rcases hr : a.drop (lineAt a).length with _ | ⟨c, r⟩
      · left
        obtain ⟨g1, g2⟩ := lineAt_whole a (10 :: 10 :: b) hr (10 :: b) rfl
        rw [tx_cons (a ++ 10 :: 10 :: b) (by simp), g1, List.drop_left]
        have e1 : endOf (10 :: 10 :: b) = [10] := by simp [endOf]
        rw [e1, ← List.drop_drop, List.drop_left]
        have e2 : (10 :: 10 :: b).drop ([10] : List UInt8).length = 10 :: b := rfl
        rw [e2, tx_ten]
        have e3 : tx a = [a] := by
          rw [tx_cons a ha, hr, g2]
          have : endOf [] = [] := rfl
          rw [this, List.length_nil, Nat.add_zero, List.drop_length, tx_nil]
        rw [e3]
        rfl
      · obtain ⟨g1, g2⟩ := lineAt_append a (10 :: 10 :: b) c r hr
        have hdr : (a ++ 10 :: 10 :: b).drop (lineAt a).length = c :: (r ++ 10 :: 10 :: b) := by
          rw [List.drop_append_of_le_length (by have := congrArg List.length hpre; rw [List.length_append] at this; omega), hr]
          rfl
        rw [tx_cons (a ++ 10 :: 10 :: b) (by simp), g1, hdr, ← List.drop_drop, hdr, tx_cons a ha, ← List.drop_drop, hr]
        by_cases hc : c = 13 ∧ r = []
        · obtain ⟨rfl, rfl⟩ := hc
          left
          have e1 : endOf (13 :: ([] ++ 10 :: 10 :: b)) = [13, 10] := rfl
          have e2 : endOf [13] = [13] := rfl
          rw [e1, e2]
          have e3 : (13 :: ([] ++ 10 :: 10 :: b)).drop ([13, 10] : List UInt8).length = 10 :: b := rfl
          have e4 : ([13] : List UInt8).drop ([13] : List UInt8).length = [] := rfl
          rw [e3, e4, tx_ten, tx_nil]
          rfl
        · rw [endOf_append c r _ hc]
          have hel := (endOf_len (c :: r)).1
          have e1 : (c :: (r ++ 10 :: 10 :: b)).drop (endOf (c :: r)).length = (c :: r).drop (endOf (c :: r)).length ++ 10 :: 10 :: b := by
            rw [← List.cons_append, List.drop_append_of_le_length hel]
          rw [e1]
          have hlen : ((c :: r).drop (endOf (c :: r)).length).length ≤ f := by
            have e2 := congrArg List.length hr
            have e3 := (endOf_len (c :: r)).2 (by simp)
            rw [List.length_drop] at e2 ⊢
            simp only [List.length_cons] at e2 hel e3 ⊢
            omega
          rcases tx_two f ((c :: r).drop (endOf (c :: r)).length) b hlen with h9 | h9
          · left
            rw [h9]
            simp
          · right
            rw [h9]
            simp

/-- the machine on the lines' texts alone -/
def runT : List (List UInt8) → Nat → Nat → Option (Nat × Nat)
  | [], st, cnt => some (st, cnt)
  | s :: r, st, cnt => match stepS st cnt s with
    | none => none
    | some (st', cnt', _) => runT r st' cnt'
theorem walk_run : ∀ (L : List Ln) (st cnt : Nat) (acc : List Pc), (runT (L.map (·.t)) st cnt = none → ∃ a, walkS L st cnt acc = .error a) ∧ (∀ st' cnt', runT (L.map (·.t)) st cnt = some (st', cnt') → ∃ acc', walkS L st cnt acc = .ok (st', cnt', acc'))
  | [], st, cnt, acc => by
    refine ⟨fun h => by simp [runT] at h, fun st' cnt' h => ?_⟩
    simp only [List.map_nil, runT, Option.some.injEq, Prod.mk.injEq] at h
    obtain ⟨rfl, rfl⟩ := h
    exact ⟨acc, rfl⟩
  | x :: r, st, cnt, acc => by
    rw [List.map_cons, runT, walkS]
    rcases hS : stepS st cnt x.t with _ | ⟨s1, c1, ps⟩
    · exact ⟨fun _ => ⟨_, rfl⟩, fun _ _ h => by simp at h⟩
    · exact walk_run r s1 c1 _
theorem run_append : ∀ (A B : List (List UInt8)) (st cnt : Nat), runT (A ++ B) st cnt = (runT A st cnt).bind fun x => runT B x.1 x.2
  | [], B, st, cnt => rfl
  | s :: A, B, st, cnt => by
    rw [List.cons_append, runT, runT]
    rcases hS : stepS st cnt s with _ | ⟨s1, c1, ps⟩
    · rfl
    · exact run_append A B s1 c1
theorem step_shift (st cnt k : Nat) (s : List UInt8) : stepS st (cnt + k) s = (stepS st cnt s).map fun r => (r.1, r.2.1 + k, r.2.2) := by
  unfold stepS
  repeat' split
  all_goals (first | rfl | (simp; omega))
theorem run_shift : ∀ (A : List (List UInt8)) (st cnt k : Nat), runT A st (cnt + k) = (runT A st cnt).map fun r => (r.1, r.2 + k)
  | [], st, cnt, k => rfl
  | s :: A, st, cnt, k => by
    rw [runT, runT, step_shift]
    rcases hS : stepS st cnt s with _ | ⟨s1, c1, ps⟩
    · rfl
    · exact run_shift A s1 c1 k
theorem read_run (t : List UInt8) (cnt : Nat) (acc : List Pc) (h : readS t = .ok (cnt, acc)) : ∃ st, st ≠ 1 ∧ runT (tx t) 0 0 = some (st, cnt) := by
  unfold readS at h
  split at h
  · cases h
  · rename_i st c a hw
    split at h
    · cases h
    · rename_i h1
      injection h with h
      cases h
      refine ⟨st, h1, ?_⟩
      rcases hR : runT (tx t) 0 0 with _ | ⟨s2, c2⟩
      · obtain ⟨x, hx⟩ := (walk_run (linesOf t 0) 0 0 []).1 hR
        rw [hw] at hx; cases hx
      · obtain ⟨x, hx⟩ := (walk_run (linesOf t 0) 0 0 []).2 _ _ hR
        rw [hw] at hx
        injection hx with hx
        cases hx
        rfl
theorem run_read (t : List UInt8) (st cnt : Nat) (h1 : st ≠ 1) (h : runT (tx t) 0 0 = some (st, cnt)) : ∃ acc, readS t = .ok (cnt, acc) := by
  obtain ⟨acc, hw⟩ := (walk_run (linesOf t 0) 0 0 []).2 _ _ h
  exact ⟨acc, by rw [rparse_ok hw, if_neg h1]⟩
theorem step_empty (st cnt : Nat) (h : st ≠ 1) : stepS st cnt [] = some (0, cnt, []) := by simp [stepS, h]
/-- two texts of such a form, an empty line between them -/
theorem read_two (a b : List UInt8) (ca cb : Nat) (la lb : List Pc) (ha : readS a = .ok (ca, la)) (hb : readS b = .ok (cb, lb)) : ∃ acc, readS (a ++ 10 :: 10 :: b) = .ok (ca + cb, acc) := by
  obtain ⟨sa, h1, h2⟩ := read_run a ca la ha
  obtain ⟨sb, h3, h4⟩ := read_run b cb lb hb
  have h5 := run_shift (tx b) 0 0 ca
  rw [h4] at h5
  simp only [Option.map_some, Nat.zero_add] at h5
  refine run_read _ sb _ h3 ?_
  rcases tx_two a.length a b (Nat.le_refl _) with h9 | h9
  · rw [h9, run_append, run_append, h2]
    simp only [Option.bind_some, runT, step_empty _ _ h1]
    rw [h5, Nat.add_comm]
  · rw [h9, run_append, run_append, h2]
    simp only [Option.bind_some, runT, step_empty _ _ h1, step_empty 0 _ (by decide)]
    rw [h5, Nat.add_comm]
end Go.Proofs.Ytemiegbgnpcbiaa
