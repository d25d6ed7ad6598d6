/- Layer 18 (packet): the packets of pages, as plain data. -/
import Derived.Test.YtmnmonmbdgedbaaPk4
namespace Go.Proofs.Ytmnmonmbdgedbaa
open Go.RowKit
set_option linter.unusedVariables false
set_option linter.unusedSimpArgs false

/-- a page's laces, one by one: the packets that ended, what is left of the last one, from where, to where in the body -/
structure Lc where
  acc : List (List UInt8)
  part : List UInt8
  fr : Nat
  tt : Nat
def lcStep (body : List UInt8) (s : Lc) (k : UInt8) : Lc :=
  if k = 255 then { s with tt := s.tt + 255 }
  else ⟨s.acc ++ [s.part ++ (body.drop s.fr).take (s.tt + k.toNat - s.fr)], [], s.tt + k.toNat, s.tt + k.toNat⟩
def lcs (body : List UInt8) (laces : List UInt8) (acc : List (List UInt8)) (part : List UInt8) : Lc := laces.foldl (lcStep body) ⟨acc, part, 0, 0⟩
/-- what is open behind a page -/
def partL (body : List UInt8) (s : Lc) : List UInt8 := if s.fr < s.tt then s.part ++ (body.drop s.fr).take (s.tt - s.fr) else s.part
def opensB (laces : List UInt8) (op : Bool) : Bool := if laces = [] then op else openB laces
/-- the packets of pages, the fault's number and place -/
def joinS : List Pg → Nat → List (List UInt8) → List UInt8 → Bool → List (List UInt8) × Int × Int
  | [], i, acc, part, op => if op = true then ([], 1, i) else (acc, 0, 0)
  | p :: ps, i, acc, part, op =>
    if checkC p ≠ 0 ∨ hasB p.fl 1 ≠ op then ([], 1, i)
    else joinS ps (i + 1) (lcs p.bo p.la acc part).acc (partL p.bo (lcs p.bo p.la acc part)) (opensB p.la op)
theorem lcs_snoc (body l : List UInt8) (c : UInt8) (acc : List (List UInt8)) (part : List UInt8) : lcs body (l ++ [c]) acc part = lcStep body (lcs body l acc part) c := by
  unfold lcs
  rw [List.foldl_append]
  rfl
theorem laces_cons (c : UInt8) (l : List UInt8) : lacesL (c :: l) = c.toNat + lacesL l := by
  have h := laces_app [c] l
  rw [show ([c] ++ l) = c :: l from rfl] at h
  rw [h]
  simp [lacesL]
theorem lcs_fold (body : List UInt8) : ∀ (l : List UInt8) (s : Lc), s.fr ≤ s.tt → (l.foldl (lcStep body) s).tt = s.tt + lacesL l ∧ (l.foldl (lcStep body) s).fr ≤ (l.foldl (lcStep body) s).tt
  | [], s, h => ⟨rfl, h⟩
  | c :: l, s, h => by
    have h1 : (lcStep body s c).tt = s.tt + c.toNat ∧ (lcStep body s c).fr ≤ (lcStep body s c).tt := by
      unfold lcStep
      split
      · rename_i e
        subst e
        exact ⟨rfl, by show s.fr ≤ s.tt + 255; omega⟩
      · exact ⟨rfl, Nat.le_refl _⟩
    have h2 := lcs_fold body l (lcStep body s c) h1.2
    rw [List.foldl_cons, laces_cons]
    exact ⟨by rw [h2.1, h1.1]; omega, h2.2⟩
theorem lcs_to (body : List UInt8) (acc : List (List UInt8)) (part : List UInt8) (l : List UInt8) : (lcs body l acc part).tt = lacesL l ∧ (lcs body l acc part).fr ≤ (lcs body l acc part).tt := by
  have h := lcs_fold body l ⟨acc, part, 0, 0⟩ (Nat.le_refl _)
  rw [Nat.zero_add] at h
  exact h
theorem opensB_snoc (l : List UInt8) (c : UInt8) (op : Bool) : opensB (l ++ [c]) op = (c == 255) := by
  unfold opensB openB
  rw [if_neg (by simp)]
  simp
end Go.Proofs.Ytmnmonmbdgedbaa
