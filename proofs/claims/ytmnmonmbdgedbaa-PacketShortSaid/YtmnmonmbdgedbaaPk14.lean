/- Layer 18 (packet): what stands on pages is joined as it was (plain). -/
import Derived.Test.YtmnmonmbdgedbaaPk8
namespace Go.Proofs.Ytmnmonmbdgedbaa
open Go.RowKit
set_option linter.unusedVariables false
set_option linter.unusedSimpArgs false

/-- packets of laces and bytes, all at once -/
def eat : List UInt8 → List UInt8 → List (List UInt8) → List UInt8 → List (List UInt8) × List UInt8
  | [], _, acc, part => (acc, part)
  | c :: l, b, acc, part => if c = 255 then eat l (b.drop 255) acc (part ++ b.take 255) else eat l (b.drop c.toNat) (acc ++ [part ++ b.take c.toNat]) []
theorem eat_fold (body : List UInt8) : ∀ (l : List UInt8) (s : Rl), (l.foldl (rlStep body) s).acc = (eat l (body.drop s.pos) s.acc s.part).1 ∧ (l.foldl (rlStep body) s).part = (eat l (body.drop s.pos) s.acc s.part).2
  | [], s => ⟨rfl, rfl⟩
  | c :: l, s => by
    rw [List.foldl_cons]
    have h := eat_fold body l (rlStep body s c)
    rw [h.1, h.2]
    unfold rlStep
    by_cases e : c = 255
    · rw [if_pos e, eat, if_pos e, List.drop_drop]
      exact ⟨rfl, rfl⟩
    · rw [if_neg e, eat, if_neg e, List.drop_drop]
      exact ⟨rfl, rfl⟩
theorem eat_rls (body l : List UInt8) (acc : List (List UInt8)) (part : List UInt8) : (rls body l acc part).acc = (eat l body acc part).1 ∧ (rls body l acc part).part = (eat l body acc part).2 := eat_fold body l ⟨acc, part, 0⟩
theorem eat_take : ∀ (l b : List UInt8) (n : Nat) (acc : List (List UInt8)) (part : List UInt8), lacesL l ≤ n → eat l (b.take n) acc part = eat l b acc part
  | [], _, _, _, _, _ => rfl
  | c :: l, b, n, acc, part, h => by
    rw [laces_cons] at h
    rw [eat, eat]
    by_cases e : c = 255
    · rw [if_pos e, if_pos e]
      have e2 : c.toNat = 255 := by rw [e]; rfl
      rw [List.take_take, show min 255 n = 255 by omega, List.drop_take]
      exact eat_take l _ _ _ _ (by omega)
    · rw [if_neg e, if_neg e, List.take_take, show min c.toNat n = c.toNat by omega, List.drop_take]
      exact eat_take l _ _ _ _ (by omega)
theorem eat_app : ∀ (l1 l2 b : List UInt8) (acc : List (List UInt8)) (part : List UInt8), eat (l1 ++ l2) b acc part = eat l2 (b.drop (lacesL l1)) (eat l1 b acc part).1 (eat l1 b acc part).2
  | [], l2, b, acc, part => rfl
  | c :: l1, l2, b, acc, part => by
    rw [List.cons_append, eat, eat, laces_cons]
    by_cases e : c = 255
    · have e2 : c.toNat = 255 := by rw [e]; rfl
      rw [if_pos e, if_pos e, eat_app l1, List.drop_drop, e2]
    · rw [if_neg e, if_neg e, eat_app l1, List.drop_drop]
theorem eat_lace (b l : List UInt8) (acc : List (List UInt8)) : ∀ (n : Nat) (p part : List UInt8), p.length = n → eat (laceL n ++ l) (p ++ b) acc part = eat l b (acc ++ [part ++ p]) [] := by
  intro n
  induction n using Nat.strongRecOn with
  | _ n ih =>
    intro p part hp
    by_cases h : 255 ≤ n
    · rw [laceL_step n h, List.cons_append, eat, if_pos rfl]
      have e1 : (p ++ b).drop 255 = p.drop 255 ++ b := List.drop_append_of_le_length (by omega)
      have e2 : (p ++ b).take 255 = p.take 255 := List.take_append_of_le_length (by omega)
      rw [e1, e2, ih (n - 255) (by omega) (p.drop 255) _ (by rw [List.length_drop]; omega), List.append_assoc, List.take_append_drop]
    · have hc : (UInt8.ofNat n).toNat = n := by rw [UInt8.toNat_ofNat']; omega
      have hne : ¬ UInt8.ofNat n = 255 := by rw [u8_eq, hc]; show ¬ n = 255; omega
      rw [laceL_last n (by omega), List.cons_append, List.nil_append, eat, if_neg hne, hc]
      have e1 : (p ++ b).drop n = b := by rw [List.drop_append_of_le_length (by omega), List.drop_of_length_le (by omega), List.nil_append]
      have e2 : (p ++ b).take n = p := by rw [List.take_append_of_le_length (by omega), List.take_of_length_le (by omega)]
      rw [e1, e2]
theorem eat_all : ∀ (ps acc : List (List UInt8)), eat (ps.map (fun p => laceL p.length)).flatten ps.flatten acc [] = (acc ++ ps, [])
  | [], acc => by simp [eat]
  | p :: ps, acc => by
    rw [List.map_cons, List.flatten_cons, List.flatten_cons, eat_lace _ _ _ _ p [] rfl, eat_all ps]
    simp
theorem opens_app (l1 l2 : List UInt8) (op : Bool) : opensB (l1 ++ l2) op = opensB l2 (opensB l1 op) := by
  by_cases h : l2 = []
  · rw [h, List.append_nil]; rfl
  · obtain ⟨r, c, rfl⟩ : ∃ r c, l2 = r ++ [c] := ⟨l2.dropLast, l2.getLast h, (List.dropLast_concat_getLast h).symm⟩
    rw [← List.append_assoc, opensB_snoc, opensB_snoc]
theorem opens_lace (n : Nat) (op : Bool) : opensB (laceL n) op = false := by
  unfold laceL
  rw [opensB_snoc]
  have h : ¬ UInt8.ofNat (n % 255) = 255 := by rw [u8_eq, UInt8.toNat_ofNat']; show ¬ (n % 255) % 256 = 255; omega
  simpa using h
theorem opens_all : ∀ (ps : List (List UInt8)), opensB (ps.map (fun p => laceL p.length)).flatten false = false
  | [] => rfl
  | p :: ps => by rw [List.map_cons, List.flatten_cons, opens_app, opens_lace, opens_all ps]
theorem has_one (c : UInt8) (op : Bool) : hasB (if op then 1 else c &&& 254) 1 = op := by
  cases op with
  | true => rw [if_pos rfl]; decide
  | false =>
    have key : ∀ n : Nat, n < 256 → hasB (UInt8.ofNat n &&& 254) 1 = false := by decide +kernel
    have h := key c.toNat (UInt8.toNat_lt c)
    rw [UInt8.ofNat_toNat] at h
    exact h
/-- pages of laces and bytes are joined to what all laces at once come to -/
theorem rjoin_pgs (h : Pg) : ∀ (g : Nat) (laces body : List UInt8) (k : Nat) (op : Bool) (i : Nat) (acc : List (List UInt8)) (part : List UInt8), laces.length < g → lacesL laces = body.length →
    ∃ j : Nat, rjoinS (pgsS h g laces body k op) i acc part op = if opensB laces op = true then ([], (j : Int)) else ((eat laces body acc part).1, -1)
  | 0, laces, body, k, op, i, acc, part, hg, _ => by omega
  | g + 1, laces, body, k, op, i, acc, part, hg, hl => by
    by_cases hne : laces = []
    · subst hne
      rw [pgsS_off, rjoinS]
      exact ⟨i, by rw [opensB_nil']; rfl⟩
    · rw [pgsS_on hne, rjoinS]
      have hs := laces_app (laces.take 255) (laces.drop 255)
      rw [List.take_append_drop] at hs
      have hc : checkC ⟨if op then 1 else h.fl &&& 254, if endsB (laces.take 255) = true then h.po else 18446744073709551615, h.se, (h.nu + k) % 4294967296, laces.take 255, body.take (lacesL (laces.take 255))⟩ = 0 := by
        unfold checkC
        have h1 : ¬ 255 < (laces.take 255).length := by rw [List.length_take]; omega
        have h2 : ¬ (body.take (lacesL (laces.take 255))).length ≠ lacesL (laces.take 255) := by rw [List.length_take]; omega
        simp only [h1, h2, if_false]
      rw [if_neg (by rw [hc, has_one]; simp)]
      have hpos : 0 < laces.length := List.length_pos_iff.2 hne
      have htn : laces.take 255 ≠ [] := by
        intro e
        have h3 := congrArg List.length e
        rw [List.length_take] at h3
        have h4 : min 255 laces.length = 0 := h3
        omega
      have ho : openB (laces.take 255) = opensB (laces.take 255) op := by unfold opensB; rw [if_neg htn]
      have he := eat_rls (body.take (lacesL (laces.take 255))) (laces.take 255) acc part
      rw [eat_take _ _ _ _ _ (Nat.le_refl _)] at he
      show ∃ j : Nat, rjoinS _ (i + 1) (rls (body.take (lacesL (laces.take 255))) (laces.take 255) acc part).acc (rls (body.take (lacesL (laces.take 255))) (laces.take 255) acc part).part (opensB (laces.take 255) op) = _
      rw [he.1, he.2, ← ho]
      obtain ⟨j, hj⟩ := rjoin_pgs h g (laces.drop 255) (body.drop (lacesL (laces.take 255))) (k + 1) (openB (laces.take 255)) (i + 1) (eat (laces.take 255) body acc part).1 (eat (laces.take 255) body acc part).2 (by rw [List.length_drop]; omega) (by rw [List.length_drop]; omega)
      refine ⟨j, ?_⟩
      rw [hj, ho, ← opens_app, ← eat_app, List.take_append_drop]
where opensB_nil' {op : Bool} : opensB [] op = op := if_pos rfl
theorem join_pages (h : Pg) (ps : List (List UInt8)) : rjoinS (pagesP h ps) 0 [] [] false = (ps, -1) := by
  unfold pagesP
  obtain ⟨j, hj⟩ := rjoin_pgs h _ _ ps.flatten 0 false 0 [] [] (Nat.lt_succ_self _) (laces_all ps)
  rw [hj, opens_all, eat_all]
  rfl
theorem join_pages2 (h : Pg) (ps : List (List UInt8)) : joinS (pagesP h ps) 0 [] [] false = (ps, 0, 0) := by
  have h1 := join_pages h ps
  have h2 := rjoin_join (pagesP h ps) 0 [] [] false
  rw [h1] at h2
  rcases h2.2 with h3 | ⟨k, _, h3⟩
  · exact Prod.ext h2.1.symm h3.1
  · have : (-1 : Int) = (k : Int) := h3
    omega
/-- each page of packets -/
def PgFine (h : Pg) (n : Nat) (i : Nat) (p : Pg) : Prop := 1 ≤ p.la.length ∧ p.la.length ≤ 255 ∧ p.bo.length = lacesL p.la ∧ p.se = h.se ∧ p.nu = (h.nu + i) % 4294967296 ∧ (i + 1 < n → p.la.length = 255) ∧ (p.po = h.po ∨ p.po = 18446744073709551615)
theorem pgs_fine (h : Pg) : ∀ (g : Nat) (laces body : List UInt8) (k : Nat) (op : Bool), laces.length < g → lacesL laces = body.length →
    (∀ i (hi : i < (pgsS h g laces body k op).length), PgFine h (k + (pgsS h g laces body k op).length) (k + i) (pgsS h g laces body k op)[i]) ∧ ((pgsS h g laces body k op).map (fun p => p.la.length)).sum = laces.length ∧ ((pgsS h g laces body k op).map (fun p => p.bo.length)).sum = body.length
  | 0, laces, body, k, op, hg, _ => by omega
  | g + 1, laces, body, k, op, hg, hl => by
    by_cases hne : laces = []
    · subst hne
      rw [pgsS_off]
      refine ⟨fun i hi => absurd hi (by simp), rfl, ?_⟩
      rw [← hl]; rfl
    · have hs := laces_app (laces.take 255) (laces.drop 255)
      rw [List.take_append_drop] at hs
      have hpos : 0 < laces.length := List.length_pos_iff.2 hne
      have ih := pgs_fine h g (laces.drop 255) (body.drop (lacesL (laces.take 255))) (k + 1) (openB (laces.take 255)) (by rw [List.length_drop]; omega) (by rw [List.length_drop]; omega)
      rw [pgsS_on hne]
      refine ⟨?_, ?_, ?_⟩
      · intro i hi
        rcases i with _ | i
        · refine ⟨by show 1 ≤ (laces.take 255).length; rw [List.length_take]; omega, by show (laces.take 255).length ≤ 255; rw [List.length_take]; omega, by show (body.take _).length = lacesL (laces.take 255); rw [List.length_take]; omega, rfl, rfl, ?_, ?_⟩
          · intro h1
            show (laces.take 255).length = 255
            rw [List.length_take]
            have h2 : laces.drop 255 ≠ [] := by
              intro e
              rw [e, pgsS_off] at h1
              simp at h1
            have h3 := List.length_pos_iff.2 h2
            rw [List.length_drop] at h3
            omega
          · show (if endsB (laces.take 255) = true then h.po else 18446744073709551615) = h.po ∨ (if endsB (laces.take 255) = true then h.po else 18446744073709551615) = 18446744073709551615
            split
            · exact .inl rfl
            · exact .inr rfl
        · have hi2 : i < (pgsS h g (laces.drop 255) (body.drop (lacesL (laces.take 255))) (k + 1) (openB (laces.take 255))).length := by simpa using hi
          have h1 := ih.1 i hi2
          rw [List.getElem_cons_succ, List.length_cons, show k + (i + 1) = k + 1 + i by omega]
          rw [show k + ((pgsS h g (laces.drop 255) (body.drop (lacesL (laces.take 255))) (k + 1) (openB (laces.take 255))).length + 1) = k + 1 + (pgsS h g (laces.drop 255) (body.drop (lacesL (laces.take 255))) (k + 1) (openB (laces.take 255))).length by omega]
          exact h1
      · rw [List.map_cons, List.sum_cons, ih.2.1, List.length_drop]
        show (laces.take 255).length + _ = _
        rw [List.length_take]
        omega
      · rw [List.map_cons, List.sum_cons, ih.2.2, List.length_drop]
        show (body.take _).length + _ = _
        rw [List.length_take]
        omega
theorem pages_fine (h : Pg) (ps : List (List UInt8)) : (∀ i (hi : i < (pagesP h ps).length), PgFine h (pagesP h ps).length i (pagesP h ps)[i]) ∧ ((pagesP h ps).map (fun p => p.la.length)).sum = (ps.map (fun p => laceL p.length)).flatten.length ∧ ((pagesP h ps).map (fun p => p.bo.length)).sum = ps.flatten.length := by
  have h1 := pgs_fine h _ _ ps.flatten 0 false (Nat.lt_succ_self _) (laces_all ps)
  refine ⟨fun i hi => ?_, h1.2⟩
  have h2 := h1.1 i hi
  simp only [Nat.zero_add] at h2
  exact h2
theorem pages_len (h : Pg) (ps : List (List UInt8)) : (pagesP h ps).length ≤ (ps.map (fun p => laceL p.length)).flatten.length := by
  have h1 := pages_fine h ps
  rw [← h1.2.1]
  have key : ∀ L : List Pg, (∀ p ∈ L, 1 ≤ p.la.length) → L.length ≤ (L.map (fun p => p.la.length)).sum := by
    intro L
    induction L with
    | nil => intro _; simp
    | cons p L ih =>
      intro hp
      have := ih (fun q hq => hp q (List.mem_cons_of_mem _ hq))
      have := hp p List.mem_cons_self
      rw [List.map_cons, List.sum_cons, List.length_cons]
      omega
  refine key _ (fun p hp => ?_)
  obtain ⟨i, hi, rfl⟩ := List.getElem_of_mem hp
  exact (h1.1 i hi).1
end Go.Proofs.Ytmnmonmbdgedbaa
