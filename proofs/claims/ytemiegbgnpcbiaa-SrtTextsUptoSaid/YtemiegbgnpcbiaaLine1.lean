/- Lines of a text as plain data: no program in sight. -/
import Derived.Test.YtemiegbgnpcbiaaRecs
namespace Go.Proofs.Ytemiegbgnpcbiaa
open Go.RowKit
set_option linter.unusedVariables false

structure Ln where
  t : List UInt8
  e : List UInt8
  a : Nat
def lnR (x : Ln) : List Value := [.string ⟨x.t.toArray⟩, .string ⟨x.e.toArray⟩, .int .i64 x.a]
/-- no line's end -/
def inl (c : UInt8) : Bool := c != 10 && c != 13
def endOf : List UInt8 → List UInt8
  | 13 :: 10 :: _ => [13, 10]
  | c :: _ => [c]
  | [] => []
def lineAt (l : List UInt8) : List UInt8 := l.takeWhile inl
def lines : Nat → List UInt8 → Nat → List Ln
  | 0, _, _ => []
  | f + 1, l, at' => if l = [] then [] else
    ⟨lineAt l, endOf (l.drop (lineAt l).length), at'⟩ :: lines f (l.drop ((lineAt l).length + (endOf (l.drop (lineAt l).length)).length)) (at' + (lineAt l).length + (endOf (l.drop (lineAt l).length)).length)
theorem endOf_len (l : List UInt8) : (endOf l).length ≤ l.length ∧ (l ≠ [] → 0 < (endOf l).length) := by
  unfold endOf
  split <;> simp
theorem endOf_pre (l : List UInt8) : l = endOf l ++ l.drop (endOf l).length := by
  unfold endOf
  split <;> simp
theorem lineAt_pre (l : List UInt8) : l = lineAt l ++ l.drop (lineAt l).length := by
  unfold lineAt
  induction l with
  | nil => rfl
  | cons c l ih =>
    rw [List.takeWhile_cons]
    split
    · simp only [List.length_cons, List.drop_succ_cons, List.cons_append]; rw [← ih]
    · simp
theorem line_pos (l : List UInt8) (h : l ≠ []) : 0 < (lineAt l).length + (endOf (l.drop (lineAt l).length)).length := by
  by_cases h2 : l.drop (lineAt l).length = []
  · have := lineAt_pre l
    rw [h2, List.append_nil] at this
    have h3 : 0 < l.length := List.length_pos_iff.2 h
    rw [← this]
    omega
  · have := (endOf_len _).2 h2
    omega
theorem lines_fuel : ∀ (f : Nat) (l : List UInt8) (a : Nat), l.length ≤ f → ∀ g, l.length ≤ g → lines f l a = lines g l a
  | 0, l, a, h, g, hg => by
    obtain rfl : l = [] := List.eq_nil_of_length_eq_zero (by omega)
    cases g <;> simp [lines]
  | f + 1, l, a, h, g, hg => by
    cases g with
    | zero =>
      obtain rfl : l = [] := List.eq_nil_of_length_eq_zero (by omega)
      simp [lines]
    | succ g =>
      unfold lines
      by_cases hl : l = []
      · simp [hl]
      · rw [if_neg hl, if_neg hl]
        have := line_pos l hl
        congr 1
        refine lines_fuel f _ _ ?_ g ?_ <;> (rw [List.length_drop]; omega)
/-- the lines of a text -/
def linesOf (l : List UInt8) (a : Nat) : List Ln := lines l.length l a
theorem linesOf_nil (a : Nat) : linesOf [] a = [] := rfl
theorem linesOf_cons (l : List UInt8) (a : Nat) (h : l ≠ []) : linesOf l a = ⟨lineAt l, endOf (l.drop (lineAt l).length), a⟩ :: linesOf (l.drop ((lineAt l).length + (endOf (l.drop (lineAt l).length)).length)) (a + (lineAt l).length + (endOf (l.drop (lineAt l).length)).length) := by
  have hp := line_pos l h
  have hl : 0 < l.length := List.length_pos_iff.2 h
  unfold linesOf
  obtain ⟨n, hn⟩ : ∃ n, l.length = n + 1 := ⟨l.length - 1, by omega⟩
  rw [hn, lines, if_neg h]
  congr 1
  refine lines_fuel _ _ _ ?_ _ (Nat.le_refl _)
  rw [List.length_drop]; omega
/-- where the line that begins at k ends, if no end stands ahead of e -/
theorem lineAt_len (l : List UInt8) (n : Nat) (hn : n ≤ l.length) (h : ∀ i (hi : i < n), inl (l[i]'(by omega)) = true) (he : ∀ (hlt : n < l.length), inl l[n] = false) : lineAt l = l.take n := by
  induction n generalizing l with
  | zero =>
    cases l with
    | nil => rfl
    | cons c l => have := he (by simp); simp only [List.getElem_cons_zero] at this; simp [lineAt, this]
  | succ n ih =>
    cases l with
    | nil => simp at hn
    | cons c l =>
      have h0 := h 0 (by omega)
      simp only [List.getElem_cons_zero] at h0
      have hi := ih l (by simpa using hn) (fun i hi => by have := h (i + 1) (by omega); simpa using this) (fun hlt => by have := he (by simpa using hlt); simpa using this)
      unfold lineAt at hi ⊢
      rw [List.takeWhile_cons, if_pos h0, hi]; rfl
theorem lineAt_drop (t : List UInt8) (k e : Nat) (hke : k ≤ e) (he : e ≤ t.length) (h : ∀ i (hi : i < t.length), k ≤ i → i < e → inl t[i] = true) (hx : ∀ (hlt : e < t.length), inl t[e] = false) : lineAt (t.drop k) = (t.drop k).take (e - k) := by
  refine lineAt_len _ _ (by rw [List.length_drop]; omega) (fun i hi => ?_) (fun hlt => ?_)
  · rw [List.getElem_drop]; exact h _ _ (by omega) (by omega)
  · rw [List.getElem_drop]
    have e2 : k + (e - k) = e := by omega
    simp only [e2]
    exact hx (by rw [List.length_drop] at hlt; omega)
/-- what the lines are: each begins where those ahead of it end; together they are the text -/
def lnAll (L : List Ln) : List UInt8 := (L.map fun x => x.t ++ x.e).flatten
theorem lines_ok : ∀ (f : Nat) (l : List UInt8) (a : Nat), l.length ≤ f → lnAll (linesOf l a) = l ∧ ∀ k (h : k < (linesOf l a).length), (linesOf l a)[k].a = a + (lnAll ((linesOf l a).take k)).length
  | 0, l, a, h => by
    obtain rfl : l = [] := List.eq_nil_of_length_eq_zero (by omega)
    exact ⟨rfl, fun k hk => absurd hk (by simp [linesOf_nil])⟩
  | f + 1, l, a, h => by
    by_cases hl : l = []
    · subst hl
      exact ⟨rfl, fun k hk => absurd hk (by simp [linesOf_nil])⟩
    · have hp := line_pos l hl
      obtain ⟨i1, i2⟩ := lines_ok f (l.drop ((lineAt l).length + (endOf (l.drop (lineAt l).length)).length)) (a + (lineAt l).length + (endOf (l.drop (lineAt l).length)).length) (by rw [List.length_drop]; omega)
      rw [linesOf_cons l a hl]
      constructor
      · simp only [lnAll, List.map_cons, List.flatten_cons] at i1 ⊢
        rw [i1]
        have e1 := lineAt_pre l
        have e2 := endOf_pre (l.drop (lineAt l).length)
        rw [List.drop_drop] at e2
        rw [List.append_assoc, ← e2, ← e1]
      · intro k hk
        cases k with
        | zero => simp [lnAll]
        | succ k =>
          have := i2 k (by simpa using hk)
          simp only [List.getElem_cons_succ, List.take_succ_cons]
          rw [this]
          simp [lnAll]
          omega
def isDigit (c : UInt8) : Bool := decide (48 ≤ c.toNat ∧ c.toNat ≤ 57)
def isCap (c : UInt8) : Bool := isDigit c || decide (65 ≤ c.toNat ∧ c.toNat ≤ 90)
def digitsL (l : List UInt8) : Bool := l.all isDigit && !l.isEmpty
def capsL (l : List UInt8) : Bool := l.all isCap && !l.isEmpty
def likeB (c d : UInt8) : Bool := if d = 48 then isDigit c else c == d
def likeL (s f : List UInt8) : Bool := s.length == f.length && (s.zip f).all fun p => likeB p.1 p.2
end Go.Proofs.Ytemiegbgnpcbiaa
