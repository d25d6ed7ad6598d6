/- Layer 18 (packet): the document's Join, walked. -/
import Derived.Test.YtmnmonmbdgedbaaPk7
import Derived.Deep.DeepCutAuto
namespace Go.Proofs.Ytmnmonmbdgedbaa
open Go.RowKit
set_option linter.unusedVariables false
set_option linter.unusedSimpArgs false

/-- a page's laces as the document takes them: the packets, the part, the place -/
structure Rl where
  acc : List (List UInt8)
  part : List UInt8
  pos : Nat
def rlStep (body : List UInt8) (s : Rl) (k : UInt8) : Rl :=
  if k = 255 then ⟨s.acc, s.part ++ (body.drop s.pos).take 255, s.pos + 255⟩ else ⟨s.acc ++ [s.part ++ (body.drop s.pos).take k.toNat], [], s.pos + k.toNat⟩
def rls (body laces : List UInt8) (acc : List (List UInt8)) (part : List UInt8) : Rl := laces.foldl (rlStep body) ⟨acc, part, 0⟩
def rjoinS : List Pg → Nat → List (List UInt8) → List UInt8 → Bool → List (List UInt8) × Int
  | [], i, acc, part, op => if op = true then ([], (i : Int)) else (acc, -1)
  | p :: ps, i, acc, part, op =>
    if checkC p ≠ 0 ∨ hasB p.fl 1 ≠ op then ([], (i : Int))
    else rjoinS ps (i + 1) (rls p.bo p.la acc part).acc (rls p.bo p.la acc part).part (opensB p.la op)
theorem rls_snoc (body l : List UInt8) (c : UInt8) (acc : List (List UInt8)) (part : List UInt8) : rls body (l ++ [c]) acc part = rlStep body (rls body l acc part) c := by
  unfold rls
  rw [List.foldl_append]
  rfl
/-- the program's way and the document's come to the same -/
theorem rl_lc (body : List UInt8) : ∀ (l : List UInt8) (s : Lc) (r : Rl), s.fr ≤ s.tt → r.acc = s.acc → r.pos = s.tt → r.part = s.part ++ (body.drop s.fr).take (s.tt - s.fr) →
    (l.foldl (rlStep body) r).acc = (l.foldl (lcStep body) s).acc ∧ (l.foldl (rlStep body) r).part = (l.foldl (lcStep body) s).part ++ (body.drop (l.foldl (lcStep body) s).fr).take ((l.foldl (lcStep body) s).tt - (l.foldl (lcStep body) s).fr)
  | [], s, r, h, h1, h2, h3 => ⟨h1, h3⟩
  | c :: l, s, r, h, h1, h2, h3 => by
    have key : ∀ n : Nat, (s.part ++ (body.drop s.fr).take (s.tt - s.fr)) ++ (body.drop s.tt).take n = s.part ++ (body.drop s.fr).take (s.tt + n - s.fr) := fun n => by
      rw [List.append_assoc]
      congr 1
      rw [show s.tt + n - s.fr = (s.tt - s.fr) + n by omega, List.take_add, List.drop_drop, show s.fr + (s.tt - s.fr) = s.tt by omega]
    rw [List.foldl_cons, List.foldl_cons]
    by_cases e : c = 255
    · have e1 : rlStep body r c = ⟨r.acc, r.part ++ (body.drop r.pos).take 255, r.pos + 255⟩ := by unfold rlStep; rw [if_pos e]
      have e2 : lcStep body s c = { s with tt := s.tt + 255 } := by unfold lcStep; rw [if_pos e]
      rw [e1, e2]
      exact rl_lc body l _ _ (by show s.fr ≤ s.tt + 255; omega) h1 (by show r.pos + 255 = s.tt + 255; rw [h2]) (by show r.part ++ (body.drop r.pos).take 255 = s.part ++ (body.drop s.fr).take (s.tt + 255 - s.fr); rw [h3, h2, key])
    · have e1 : rlStep body r c = ⟨r.acc ++ [r.part ++ (body.drop r.pos).take c.toNat], [], r.pos + c.toNat⟩ := by unfold rlStep; rw [if_neg e]
      have e2 : lcStep body s c = ⟨s.acc ++ [s.part ++ (body.drop s.fr).take (s.tt + c.toNat - s.fr)], [], s.tt + c.toNat, s.tt + c.toNat⟩ := by unfold lcStep; rw [if_neg e]
      rw [e1, e2]
      refine rl_lc body l _ _ (Nat.le_refl _) ?_ ?_ ?_
      · show r.acc ++ [r.part ++ (body.drop r.pos).take c.toNat] = s.acc ++ [s.part ++ (body.drop s.fr).take (s.tt + c.toNat - s.fr)]
        rw [h1, h3, h2, key]
      · show r.pos + c.toNat = s.tt + c.toNat
        rw [h2]
      · show [] = [] ++ (body.drop (s.tt + c.toNat)).take (s.tt + c.toNat - (s.tt + c.toNat))
        simp
theorem rls_lcs (body l : List UInt8) (acc : List (List UInt8)) (part : List UInt8) : (rls body l acc part).acc = (lcs body l acc part).acc ∧ (rls body l acc part).part = partL body (lcs body l acc part) := by
  have h := rl_lc body l ⟨acc, part, 0, 0⟩ ⟨acc, part, 0⟩ (Nat.le_refl _) rfl rfl (by simp)
  refine ⟨h.1, h.2.trans ?_⟩
  have h2 := lcs_to body acc part l
  show (lcs body l acc part).part ++ (body.drop (lcs body l acc part).fr).take ((lcs body l acc part).tt - (lcs body l acc part).fr) = _
  unfold partL
  split
  · rfl
  · rw [show (lcs body l acc part).tt - (lcs body l acc part).fr = 0 by omega]
    simp
theorem rjoin_join : ∀ (ps : List Pg) (i : Nat) (acc : List (List UInt8)) (part : List UInt8) (op : Bool), (rjoinS ps i acc part op).1 = (joinS ps i acc part op).1 ∧
    (((joinS ps i acc part op).2 = (0, 0) ∧ (rjoinS ps i acc part op).2 = -1) ∨ (∃ k : Nat, (joinS ps i acc part op).2 = (1, (k : Int)) ∧ (rjoinS ps i acc part op).2 = (k : Int)))
  | [], i, acc, part, op => by
    cases op with
    | true => exact ⟨rfl, .inr ⟨i, rfl, rfl⟩⟩
    | false => exact ⟨rfl, .inl ⟨rfl, rfl⟩⟩
  | p :: ps, i, acc, part, op => by
    unfold rjoinS joinS
    split
    · exact ⟨rfl, .inr ⟨i, rfl, rfl⟩⟩
    · have h := rls_lcs p.bo p.la acc part
      rw [h.1, h.2]
      exact rjoin_join ps (i + 1) _ _ _
end Go.Proofs.Ytmnmonmbdgedbaa
