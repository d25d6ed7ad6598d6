/- Subtitles (srt): a text made of blocks, as plain data. -/
import Derived.Test.YtemiegbgnpcbiaaSrt9
namespace Go.Proofs.Ytemiegbgnpcbiaa
open Go.RowKit
set_option linter.unusedVariables false

def tmL : List UInt8 := [48, 49, 58, 48, 50, 58, 48, 51, 44, 48, 48, 52, 32, 45, 45, 62, 32, 48, 53, 58, 48, 54, 58, 48, 55, 44, 48, 48, 56, 32, 120]
def hdrL : List UInt8 := [55, 10, 48, 49, 58, 48, 50, 58, 48, 51, 44, 48, 48, 52, 32, 45, 45, 62, 32, 48, 53, 58, 48, 54, 58, 48, 55, 44, 48, 48, 56, 32, 120, 10]
def blk (s : List UInt8) : List UInt8 := hdrL ++ (s ++ [10, 10])
def made (L : List (List UInt8)) : List UInt8 := (L.map blk).flatten
theorem made_snoc (L : List (List UInt8)) (s : List UInt8) : made (L ++ [s]) = made L ++ blk s := by simp [made]
/-- what somebody wrote -/
def says (L : List Pc) : List (List UInt8) := (L.filter fun p => !p.m).map (·.t)
theorem says_append (a b : List Pc) : says (a ++ b) = says a ++ says b := by simp [says]
/-- a text without a line's end, and not empty -/
def Plain1 (s : List UInt8) : Prop := s ≠ [] ∧ ∀ c ∈ s, inl c = true
theorem lineAt_all (p R : List UInt8) (h : ∀ c ∈ p, inl c = true) : lineAt (p ++ 10 :: R) = p := by
  unfold lineAt
  rw [List.takeWhile_append_of_pos h]
  simp [inl]
theorem lines_one (p R : List UInt8) (a : Nat) (h : ∀ c ∈ p, inl c = true) : linesOf (p ++ 10 :: R) a = ⟨p, [10], a⟩ :: linesOf R (a + p.length + 1) := by
  rw [linesOf_cons _ _ (by simp), lineAt_all p R h, List.drop_left]
  have e : endOf (10 :: R) = [10] := by simp [endOf]
  rw [e, ← List.drop_drop, List.drop_left]
  rfl
theorem plain_of {s : List UInt8} {x : Ln} (h : linesOf s 0 = [x]) (he : x.e = []) : Plain1 s := by
  have hne : s ≠ [] := by intro e; subst e; rw [linesOf_nil] at h; cases h
  refine ⟨hne, ?_⟩
  rw [linesOf_cons s 0 hne] at h
  simp only [List.cons.injEq] at h
  obtain ⟨h1, _⟩ := h
  rw [← h1] at he
  simp only at he
  have hd : s.drop (lineAt s).length = [] := by
    rcases hr : s.drop (lineAt s).length with _ | ⟨c, r⟩
    · rfl
    · rw [hr] at he
      have := (endOf_len (c :: r)).2 (by simp)
      rw [he] at this
      simp at this
  have h2 := lineAt_pre s
  rw [hd, List.append_nil] at h2
  intro c hc
  rw [h2] at hc
  exact List.all_eq_true.1 (List.all_takeWhile (p := inl) (l := s)) c hc
theorem of_plain {s : List UInt8} (h : Plain1 s) : linesOf s 0 = [⟨s, [], 0⟩] := by
  have h1 : lineAt s = s := (lineAt_len s s.length (Nat.le_refl _) (fun i hi => h.2 _ (List.getElem_mem _)) (fun hlt => absurd hlt (Nat.lt_irrefl _))).trans List.take_length
  rw [linesOf_cons s 0 h.1, h1, List.drop_length]
  have e : endOf [] = [] := rfl
  rw [e, List.length_nil, Nat.add_zero, List.drop_length, linesOf_nil]
theorem times_ok : timesL tmL = true := by decide
theorem seven : digitsL [55] = true := by decide
theorem made_walk : ∀ (L : List (List UInt8)) (a cnt : Nat) (acc : List Pc), (∀ s ∈ L, Plain1 s) → ∃ acc', walkS (linesOf (made L) a) 0 cnt acc = .ok (0, cnt + L.length, acc') ∧ says acc' = says acc ++ L
  | [], a, cnt, acc, _ => ⟨acc, rfl, by simp⟩
  | s :: L, a, cnt, acc, h => by
    obtain ⟨hs1, hs2⟩ := h s List.mem_cons_self
    have e0 : made (s :: L) = [55] ++ 10 :: (tmL ++ 10 :: (s ++ 10 :: ([] ++ 10 :: made L))) := by
      simp [made, blk, hdrL, tmL]
    rw [e0, lines_one _ _ _ (by decide), lines_one _ _ _ (by decide), lines_one _ _ _ hs2, lines_one _ _ _ (by simp)]
    have s1 : stepS 0 cnt [55] = some (1, cnt + 1, [markL [55]]) := by simp [stepS, seven]
    have s2 : stepS 1 (cnt + 1) tmL = some (2, cnt + 1, [markL tmL]) := by simp [stepS, times_ok]
    have s3 : stepS 2 (cnt + 1) s = some (2, cnt + 1, [sayP s]) := by simp [stepS, hs1]
    have s4 : stepS 2 (cnt + 1) [] = some (0, cnt + 1, []) := by simp [stepS]
    simp only [walkS, s1, s2, s3, s4]
    obtain ⟨acc', h1, h2⟩ := made_walk L _ (cnt + 1) _ (fun q hq => h q (List.mem_cons_of_mem _ hq))
    refine ⟨acc', ?_, ?_⟩
    · rw [h1, List.length_cons]
      congr 2
      simp
      omega
    · rw [h2]
      simp [says, endP, markL, sayP]
theorem made_read (L : List (List UInt8)) (h : ∀ s ∈ L, Plain1 s) : ∃ acc, readS (made L) = .ok (L.length, acc) ∧ says acc = L := by
  obtain ⟨acc, h1, h2⟩ := made_walk L 0 0 [] h
  refine ⟨acc, ?_, by simpa [says] using h2⟩
  rw [rparse_ok h1, if_neg (by decide), Nat.zero_add]
end Go.Proofs.Ytemiegbgnpcbiaa
