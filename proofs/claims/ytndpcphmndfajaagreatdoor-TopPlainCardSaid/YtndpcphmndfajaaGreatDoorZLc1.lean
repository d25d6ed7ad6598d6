/- Songs (lrc) as plain data: the pieces of a line. | Scripts (ssa) as plain data: the pieces of a line, and what stood. | Lines (line), plain: the pieces of a text, one behind the other, are the text, whatever tells them. | Sheets and songs: Parse, walked once Pieces is. |  -/
import Derived.Test.YtndpcphmndfajaaGreatDoorZSrt1
import Derived.Lib.Split
import Derived.Lib.IndexLaws
import Derived.Lib.TrimByte
import Derived.Test.YtndpcphmndfajaaGreatDoorZWk
import Derived.Test.YtndpcphmndfajaaGreatDoorZCu7
import Derived.Test.YtndpcphmndfajaaGreatDoorShelf

namespace Go.Proofs.YtndpcphmndfajaaGreatDoor
open Go.RowKit
set_option linter.unusedVariables false

def minL : List UInt8 := [48, 48, 58, 48, 48]
def hunL : List UInt8 := [48, 48, 58, 48, 48, 46, 48, 48]
def thoL : List UInt8 := [48, 48, 58, 48, 48, 46, 48, 48, 48]
def momentT (s : List UInt8) : Bool := likeL s minL || (likeL s hunL || likeL s thoL)
/-- the first place of a byte -/
def firstB (c : UInt8) : List UInt8 → Option Nat
  | [] => none
  | x :: r => if x = c then some 0 else (firstB c r).map (· + 1)
theorem firstB_lt (c : UInt8) : ∀ (l : List UInt8) (k : Nat), firstB c l = some k → k < l.length ∧ l[k]? = some c
  | [], k, h => by cases h
  | x :: r, k, h => by
    unfold firstB at h
    split at h
    · cases h; rename_i hx; subst hx; simp
    · obtain ⟨j, hj, rfl⟩ := Option.map_eq_some_iff.1 h
      have := firstB_lt c r j hj
      simp; exact this
/-- how many bytes the time in brackets has that stands ahead -/
def momN (s : List UInt8) : Nat :=
  if s[0]? = some 91 then (match firstB 93 (s.take 11) with
    | none => 0
    | some n => if momentT ((s.take n).drop 1) then n + 1 else 0)
  else 0
theorem momN_le (s : List UInt8) : momN s ≤ s.length := by
  unfold momN
  split
  · split
    · exact Nat.zero_le _
    · rename_i n hn
      have := (firstB_lt _ _ _ hn).1
      rw [List.length_take] at this
      split <;> omega
  · exact Nat.zero_le _
def smaB (b : UInt8) : Bool := decide (97 ≤ b) && decide (b ≤ 122)
def nameE (s : List UInt8) : Nat := 1 + ((s.drop 1).takeWhile smaB).length
def noteT (s : List UInt8) : Option (List Pc) :=
  if s[0]? = some 91 ∧ firstB 93 s = some (s.length - 1) then
    (if nameE s = 1 then none else if s[nameE s]? = some 58 then some [markL (s.take (nameE s + 1)), ⟨false, (s.take (nameE s)).drop 1, (s.take (s.length - 1)).drop (nameE s + 1)⟩, markL [93]] else none)
  else none
/-- the times ahead, and what stands behind them -/
def timesP : Nat → List UInt8 → List Pc × List UInt8
  | 0, s => ([], s)
  | f + 1, s => if momN s = 0 then ([], s) else (markL (s.take (momN s)) :: (timesP f (s.drop (momN s))).1, (timesP f (s.drop (momN s))).2)
def lrcT (s : List UInt8) : Option (List Pc) :=
  if s = [] then some []
  else if (timesP s.length s).1 = [] then noteT s
  else some ((timesP s.length s).1 ++ (if (timesP s.length s).2 = [] then [] else [sayP (timesP s.length s).2]))
theorem timesP_whole : ∀ (f : Nat) (s : List UInt8), ((timesP f s).1.map (·.t)).flatten ++ (timesP f s).2 = s ∧ (timesP f s).1.length + (timesP f s).2.length ≤ s.length
  | 0, s => by simp [timesP]
  | f + 1, s => by
    unfold timesP
    split
    · simp
    · rename_i h
      obtain ⟨h1, h2⟩ := timesP_whole f (s.drop (momN s))
      have hl := momN_le s
      rw [List.length_drop] at h2
      constructor
      · simp only [List.map_cons, List.flatten_cons, markL, List.append_assoc]
        rw [h1, List.take_append_drop]
      · simp only [List.length_cons]
        omega
theorem timesP_stop : ∀ (f : Nat) (s : List UInt8), s.length ≤ f → momN (timesP f s).2 = 0
  | 0, s, h => by
    have := momN_le s
    unfold timesP
    simp only
    omega
  | f + 1, s, h => by
    unfold timesP
    split
    · assumption
    · have hl := momN_le s
      exact timesP_stop f _ (by rw [List.length_drop]; omega)
theorem noteT_whole (s : List UInt8) (ps : List Pc) (h : noteT s = some ps) : (ps.map (·.t)).flatten = s ∧ ps.length ≤ 3 ∧ 3 ≤ 4 * s.length := by
  unfold noteT at h
  refine ite_some h (fun h9 => ?_) fun h => by cases h
  by_cases hc : s[0]? = some 91 ∧ firstB 93 s = some (s.length - 1)
  · obtain ⟨hc1, hc2⟩ := hc
    have hf := firstB_lt _ _ _ hc2
    refine ite_some h9 (fun h => by cases h) fun h9 => ite_some h9 (fun h8 => ?_) fun h => by cases h
    by_cases hn : s[nameE s]? = some 58
    · have hlt := (List.getElem?_eq_some_iff.1 hn).1
      have hne : nameE s ≠ s.length - 1 := by
        intro e
        rw [e, hf.2] at hn
        cases hn
      cases h8
      refine ⟨?_, by simp, by omega⟩
      have e1 := take_drop_cut s (nameE s + 1) (s.length - 1) (by omega)
      have e2 : s.drop (s.length - 1) = [93] := by
        rw [List.drop_eq_getElem_cons hf.1, List.drop_eq_nil_of_le (by omega)]
        have := List.getElem?_eq_getElem hf.1
        rw [this] at hf
        rw [Option.some.inj hf.2]
      rw [e2] at e1
      simp only [markL, List.map_cons, List.map_nil, List.flatten_cons, List.flatten_nil, List.append_nil]
      rw [List.drop_take]
      exact e1
    · rw [if_neg hn] at h9; cases h9
  · rw [if_neg hc] at h; cases h
theorem lrcT_whole (s : List UInt8) (ps : List Pc) (h : lrcT s = some ps) : (ps.map (·.t)).flatten = s ∧ ps.length ≤ 4 * s.length := by
  unfold lrcT at h
  by_cases h0 : s = []
  · rw [if_pos h0] at h; cases h; subst h0; simp
  · rw [if_neg h0] at h
    by_cases h1 : (timesP s.length s).1 = []
    · rw [if_pos h1] at h
      obtain ⟨a, b, c⟩ := noteT_whole s ps h
      exact ⟨a, by omega⟩
    · rw [if_neg h1] at h
      obtain ⟨a, b⟩ := timesP_whole s.length s
      cases h
      by_cases h2 : (timesP s.length s).2 = []
      · rw [if_pos h2]
        rw [h2] at a b
        simp at a b ⊢
        exact ⟨a, by omega⟩
      · rw [if_neg h2]
        have hp : 0 < (timesP s.length s).2.length := List.length_pos_iff.2 h2
        constructor
        · simp only [List.map_append, List.flatten_append, List.map_cons, List.map_nil, sayP, List.flatten_cons, List.flatten_nil, List.append_nil]
          exact a
        · simp only [List.length_append, List.length_cons, List.length_nil]
          omega
end Go.Proofs.YtndpcphmndfajaaGreatDoor

namespace Go.Proofs.YtndpcphmndfajaaGreatDoor
open Go.RowKit
set_option linter.unusedVariables false

theorem indexByte_firstB (c : UInt8) : ∀ l : List UInt8, Lib.indexByte l c = match firstB c l with | none => -1 | some k => (k : Int)
  | [] => rfl
  | x :: r => by
    have ih := indexByte_firstB c r
    unfold Lib.indexByte firstB
    by_cases hx : x = c
    · subst hx; simp
    · have hb : (x == c) = false := by simpa using hx
      simp only [hb, if_neg hx]
      rcases hf : firstB c r with _ | k
      · rw [hf] at ih; simp [ih]
      · rw [hf] at ih; simp only at ih; simp [ih]
/-- a text cut at commas, at most so many times -/
def splitC : Nat → List UInt8 → List (List UInt8)
  | 0, s => [s]
  | k + 1, s => match firstB 44 s with
    | none => [s]
    | some i => s.take i :: splitC k (s.drop (i + 1))
theorem splitK_splitC : ∀ (k : Nat) (s : List UInt8), Lib.splitK [44] 0 k s = splitC k s
  | 0, s => rfl
  | k + 1, s => by
    unfold Lib.splitK splitC
    rw [Lib.index_one, indexByte_firstB]
    rcases firstB 44 s with _ | i
    · simp
    · have h : ((i : Int) == -1) = false := by simp
      simp only [h]
      simpa using splitK_splitC k (s.drop (i + 1))
def joinC : List (List UInt8) → List UInt8
  | [] => []
  | [x] => x
  | x :: y :: r => x ++ ([44] ++ joinC (y :: r))
theorem splitC_ne (k : Nat) (s : List UInt8) : splitC k s ≠ [] := by
  cases k with
  | zero => simp [splitC]
  | succ k => unfold splitC; split <;> simp
theorem cut_at {s : List UInt8} {c : UInt8} {i : Nat} (h : firstB c s = some i) : s.take i ++ ([c] ++ s.drop (i + 1)) = s := by
  obtain ⟨h1, h2⟩ := firstB_lt c s i h
  have e : s.drop i = c :: s.drop (i + 1) := by
    rw [List.drop_eq_getElem_cons h1]
    congr 1
    rw [List.getElem?_eq_getElem h1] at h2
    exact Option.some.inj h2
  have := List.take_append_drop i s
  rw [e] at this
  exact this
theorem joinC_splitC : ∀ (k : Nat) (s : List UInt8), joinC (splitC k s) = s
  | 0, s => rfl
  | k + 1, s => by
    unfold splitC
    rcases hf : firstB 44 s with _ | i
    · rfl
    · simp only
      have ih := joinC_splitC k (s.drop (i + 1))
      have hne := splitC_ne k (s.drop (i + 1))
      generalize splitC k (s.drop (i + 1)) = L at *
      cases L with
      | nil => exact absurd rfl hne
      | cons y r => rw [joinC, ih]; exact cut_at hf
theorem splitC_len : ∀ (k : Nat) (s : List UInt8), (splitC k s).length ≤ s.length + 1
  | 0, s => by simp [splitC]
  | k + 1, s => by
    unfold splitC
    rcases hf : firstB 44 s with _ | i
    · simp
    · have := splitC_len k (s.drop (i + 1))
      have h1 := (firstB_lt _ _ _ hf).1
      rw [List.length_drop] at this
      simp; omega

structure Sc where
  ev : Bool
  told : Bool
  fs : List (List UInt8)
def evL : List UInt8 := [91, 69, 118, 101, 110, 116, 115, 93]
def foL : List UInt8 := [70, 111, 114, 109, 97, 116]
def stL : List UInt8 := [83, 116, 97, 114, 116]
def enL : List UInt8 := [69, 110, 100]
def smomL : List UInt8 := [48, 58, 48, 48, 58, 48, 48, 46, 48, 48]
def secT (s : List UInt8) : Bool := decide (2 < s.length) && (s[0]? == some 91 && firstB 93 s == some (s.length - 1))
def keyB (c : UInt8) : Bool := capB c || (smaB c || (c == 32 || isDigit c))
def keyedT (s : List UInt8) : Option Nat :=
  match firstB 58 s with
  | none => none
  | some n => if n = 0 then none else if s[0]? = some 32 then none else if s[n + 1]? = some 32 then (if (s.take n).all keyB then some n else none) else none
def fieldsT (v : List UInt8) : List (List UInt8) := (splitC (v.count 44) v).map fun f => Lib.trimB f 32
/-- an event's pieces behind its head -/
def evP : List (List UInt8) → List (List UInt8) → Option (List Pc)
  | _, [] => some []
  | [], _ :: _ => none
  | f :: fr, p :: pr => if f = stL ∨ f = enL then (if likeL p smomL then (evP fr pr).map fun l => markL p :: (if pr = [] then l else markL [44] :: l) else none)
    else (evP fr pr).map fun l => ⟨false, f, p⟩ :: (if pr = [] then l else markL [44] :: l)
def eventT (c : Sc) (head v : List UInt8) : Option (List Pc) :=
  if c.told then
    (if (splitC (min c.fs.length (v.length + 1) - 1) v).length < c.fs.length then none
     else (evP c.fs (splitC (min c.fs.length (v.length + 1) - 1) v)).map fun l => markL head :: l)
  else none
def ssaT (c : Sc) (s : List UInt8) : Option (Sc × List Pc) :=
  if s = [] then some (c, [])
  else if s[0]? = some 59 ∨ s[0]? = some 33 then some (c, [markL (s.take 1), ⟨false, premark, s.drop 1⟩])
  else if secT s then some (⟨decide (s = evL), false, []⟩, [markL s])
  else match keyedT s with
    | none => none
    | some n =>
      if s.take n = foL then some (⟨c.ev, true, fieldsT (s.drop (n + 2))⟩, [markL s])
      else if c.ev then (eventT c (s.take (n + 2)) (s.drop (n + 2))).map fun l => (c, l)
      else some (c, [markL (s.take (n + 2)), ⟨false, s.take n, s.drop (n + 2)⟩])
theorem evP_whole : ∀ (fs ps : List (List UInt8)) (l : List Pc), evP fs ps = some l → (l.map (·.t)).flatten = joinC ps ∧ l.length ≤ 2 * ps.length
  | _, [], l, h => by
    unfold evP at h
    cases h
    simp [joinC]
  | [], _ :: _, l, h => by cases h
  | f :: fr, p :: pr, l, h => by
    have key : ∀ (q : Pc), q.t = p → (evP fr pr).map (fun l => q :: (if pr = [] then l else markL [44] :: l)) = some l → (l.map (·.t)).flatten = joinC (p :: pr) ∧ l.length ≤ 2 * (p :: pr).length := by
      intro q hq hm
      obtain ⟨l2, h2, rfl⟩ := Option.map_eq_some_iff.1 hm
      obtain ⟨a, b⟩ := evP_whole fr pr l2 h2
      cases pr with
      | nil =>
        simp only [if_true, joinC] at a b ⊢
        simp only [List.map_cons, List.flatten_cons, hq, a, List.append_nil, List.length_cons, List.length_nil] at b ⊢
        exact ⟨trivial, by omega⟩
      | cons y r =>
        simp only [if_neg (List.cons_ne_nil y r), joinC] at a b ⊢
        simp only [List.map_cons, List.flatten_cons, hq, a, markL, List.length_cons] at b ⊢
        exact ⟨trivial, by omega⟩
    unfold evP at h
    refine ite_some h (fun h => ite_some h (fun h => key (markL p) rfl h) fun h => by cases h) fun h => key ⟨false, f, p⟩ rfl h
theorem eventT_whole (c : Sc) (head v : List UInt8) (l : List Pc) (h : eventT c head v = some l) : (l.map (·.t)).flatten = head ++ v ∧ l.length ≤ 2 * v.length + 3 := by
  unfold eventT at h
  refine ite_some h (fun h => ite_some h (fun h => by cases h) fun h => ?_) fun h => by cases h
  obtain ⟨l2, h2, rfl⟩ := Option.map_eq_some_iff.1 h
  obtain ⟨a, b⟩ := evP_whole _ _ _ h2
  rw [joinC_splitC] at a
  have := splitC_len (min c.fs.length (v.length + 1) - 1) v
  simp only [List.map_cons, List.flatten_cons, markL, a, List.length_cons]
  exact ⟨trivial, by omega⟩
theorem keyedT_lt (s : List UInt8) (n : Nat) (h : keyedT s = some n) : 0 < n ∧ n + 2 ≤ s.length := by
  unfold keyedT at h
  rcases hf : firstB 58 s with _ | k
  · rw [hf] at h; cases h
  · rw [hf] at h
    by_cases h0 : k = 0
    · simp [h0] at h
    · by_cases h3 : s[k + 1]? = some 32
      · have := (List.getElem?_eq_some_iff.1 h3).1
        simp only [if_neg h0] at h
        refine ite_some h (fun h => by cases h) fun h => ite_some h (fun h => ite_some h (fun h => by cases h; omega) fun h => by cases h) fun h => by cases h
      · simp only [if_neg h0, if_neg h3] at h
        exact ite_some h (fun h => by cases h) fun h => by cases h
theorem ssaT_whole (c c' : Sc) (s : List UInt8) (l : List Pc) (h : ssaT c s = some (c', l)) : (l.map (·.t)).flatten = s ∧ l.length ≤ 4 * s.length := by
  unfold ssaT at h
  by_cases h0 : s = []
  · rw [if_pos h0] at h; cases h; subst h0; simp
  · rw [if_neg h0] at h
    have hp : 0 < s.length := List.length_pos_iff.2 h0
    refine ite_some h (fun h => ?_) fun h => ite_some h (fun h => ?_) fun h => ?_
    · cases h
      simp only [List.map_cons, List.map_nil, List.flatten_cons, List.flatten_nil, markL, List.append_nil, List.take_append_drop, List.length_cons, List.length_nil]
      exact ⟨trivial, by omega⟩
    · cases h
      simp [markL]; omega
    · rcases hk : keyedT s with _ | n
      · rw [hk] at h; cases h
      · rw [hk] at h
        obtain ⟨k1, k2⟩ := keyedT_lt s n hk
        refine ite_some h (fun h => ?_) fun h => ite_some h (fun h => ?_) fun h => ?_
        · cases h
          simp [markL]; omega
        · obtain ⟨l2, h2, he⟩ := Option.map_eq_some_iff.1 h
          cases he
          obtain ⟨a, b⟩ := eventT_whole _ _ _ _ h2
          rw [List.take_append_drop] at a
          rw [List.length_drop] at b
          exact ⟨a, by omega⟩
        · cases h
          simp only [List.map_cons, List.map_nil, List.flatten_cons, List.flatten_nil, markL, List.append_nil, List.take_append_drop, List.length_cons, List.length_nil]
          exact ⟨trivial, by omega⟩
end Go.Proofs.YtndpcphmndfajaaGreatDoor

namespace Go.Proofs.YtndpcphmndfajaaGreatDoor
open Go.RowKit
set_option linter.unusedVariables false

def txP (L : List Pc) : List UInt8 := (L.map (·.t)).flatten
theorem txP_append (a b : List Pc) : txP (a ++ b) = txP a ++ txP b := by simp [txP]
theorem txP_end (e : List UInt8) : txP (endP e) = e := by
  unfold endP
  split
  · simp_all [txP]
  · simp [txP, markL]
theorem walkG_text {σ : Type} (step : σ → List UInt8 → Option (σ × List Pc)) (hw : ∀ st s st' ps, step st s = some (st', ps) → txP ps = s ∧ ps.length ≤ 4 * s.length) :
    ∀ (L : List Ln) (st : σ) (acc : List Pc) (st' : σ) (acc' : List Pc), walkG step L st acc = .ok (st', acc') → txP acc' = txP acc ++ lnAll L ∧ acc'.length ≤ acc.length + 5 * (lnAll L).length
  | [], st, acc, st', acc', h => by
    cases h
    simp [lnAll]
  | x :: r, st, acc, st', acc', h => by
    unfold walkG at h
    rcases hs : step st x.t with _ | ⟨st2, ps⟩
    · rw [hs] at h; cases h
    · rw [hs] at h
      obtain ⟨a, b⟩ := walkG_text step hw r st2 _ st' acc' h
      obtain ⟨c, d⟩ := hw _ _ _ _ hs
      have e1 : lnAll (x :: r) = x.t ++ x.e ++ lnAll r := by simp [lnAll]
      have e2 : (endP x.e).length ≤ x.e.length := by
        unfold endP
        split
        · simp
        · rename_i hne
          have := List.length_pos_iff.2 hne
          simp; omega
      rw [txP_append, txP_append, c, txP_end] at a
      rw [List.length_append, List.length_append] at b
      rw [e1]
      constructor
      · rw [a]; simp
      · rw [List.length_append, List.length_append]; omega
theorem walkG_whole {σ : Type} (step : σ → List UInt8 → Option (σ × List Pc)) (hw : ∀ st s st' ps, step st s = some (st', ps) → txP ps = s ∧ ps.length ≤ 4 * s.length) (t : List UInt8) (st st' : σ) (acc : List Pc)
    (h : walkG step (linesOf t 0) st [] = .ok (st', acc)) : txP acc = t ∧ acc.length ≤ 5 * t.length := by
  obtain ⟨a, b⟩ := walkG_text step hw _ _ _ _ _ h
  have hl := (lines_ok t.length t 0 (Nat.le_refl _)).1
  rw [hl] at a b
  exact ⟨by simpa [txP] using a, by simpa using b⟩
end Go.Proofs.YtndpcphmndfajaaGreatDoor

namespace Go.Proofs.YtndpcphmndfajaaGreatDoor
open Go.RowKit
set_option linter.unusedVariables false
set_option linter.unusedSimpArgs false

/-- what a text's pieces come to: the pieces, or the place that is wrong -/
def ReadG (o : Except Nat (List Pc)) (w : World) (e : Ending) (w' : World) : Prop :=
  match o with
  | .error a => e = .returned (.tuple #[.slice none 0 0, .agg #[.int .i64 1, .int .i64 a]]) ∧ Below w.heap.size w w'
  | .ok acc => ∃ v, e = .returned (.tuple #[v, .agg #[.int .i64 0, .int .i64 0]]) ∧ Recs w' w.heap.size 135 3 v (acc.map pcR) ∧ Below w.heap.size w w'

def cueRSt (st : Unit) (s : List UInt8) : Option (Unit × List Pc) := (cueT s).map fun ps => (st, ps)
def cueR (t : List UInt8) : Except Nat (List Pc) := match walkG cueRSt (linesOf t 0) () [] with
  | .error a => .error a
  | .ok (_, acc) => .ok acc
set_option maxHeartbeats 2000000 in
set_option maxRecDepth 100000 in
theorem cueR_any (T : Teller 85 [] 1000000 (fun _ _ => True) (fun _ => False) cueRSt) (t : List UInt8) (w : World) (ht : t.length ≤ 1000000) : Calls Tryz.prog 125 #[.string ⟨t.toArray⟩] w (ReadG (cueR t) w) := by
  have hw : Calls Tryz.prog 205 #[.string ⟨t.toArray⟩, .func (.func 85) #[] #[]] (w.alloc (.cells #[.int .i64 0, .int .i64 0] 26)) (WalkGSays (fun _ => False) cueRSt () t (w.alloc (.cells #[.int .i64 0, .int .i64 0] 26))) := walkG_any T () t _ trivial (fun k h => absurd h (fun h => h)) ht (Nat.le_refl _)
  unfold WalkGSays at hw
  have hB0 : Below w.heap.size w (w.alloc (.cells #[.int .i64 0, .int .i64 0] 26)) := (Below.refl _ _).alloc (Nat.le_refl _) _
  unfold ReadG cueR
  rcases hS : walkG cueRSt (linesOf t 0) () [] with a | ⟨st, acc⟩
  · rw [hS] at hw
    simp only at hw ⊢
    have HW := Lib.hid hw
    clear hw hS
    go_enter Tryz.func125, Tryz.ntmps125
    go_wp2_with (go_at_call 205; refine (HW.out).mono ?_; rintro e w1 ⟨rfl, h1⟩; have hf1 := block_away (at_a0 w _ _) h1 (fun h => h); have d0 := cell_at (j := 0) hf1; have d1 := cell_at (j := 1) hf1; have f0 := free_at (j := 0) hf1; have f1 := free_at (j := 1) hf1; simp only [List.getElem?_toArray, List.getElem?_cons_zero, List.getElem?_cons_succ] at d0 d1)
    refine end_tmp_cell rfl rfl rfl (show _ from store2 hf1 rfl) Tryz.underlying26 rfl (by kernel_rfl) ?_
    have hB1 : Below w.heap.size w w1 := hB0.trans (h1.below (fun k h => absurd h (fun h => h)) hB0.size)
    exact ⟨rfl, (hB1.setCell (p := ⟨w.heap.size, 0, none⟩) (Nat.le_refl _) (.int .i64 1)).setCell (p := ⟨w.heap.size, 1, none⟩) (Nat.le_refl _) (.int .i64 a)⟩
  · rw [hS] at hw
    simp only at hw ⊢
    have HW := Lib.hid hw
    clear hw hS
    go_enter Tryz.func125, Tryz.ntmps125
    go_wp2_with (go_at_call 205; refine (HW.out).mono ?_; rintro e w1 ⟨v1, rfl, hr1, h1⟩; have hf1 := block_away (at_a0 w _ _) h1 (fun h => h); have d0 := cell_at (j := 0) hf1; have d1 := cell_at (j := 1) hf1; have f0 := free_at (j := 0) hf1; have f1 := free_at (j := 1) hf1; simp only [List.getElem?_toArray, List.getElem?_cons_zero, List.getElem?_cons_succ] at d0 d1)
    refine end_tmp_cell rfl rfl rfl (show _ from store2 hf1 rfl) Tryz.underlying26 rfl (by kernel_rfl) ?_
    have hB1 : Below w.heap.size w w1 := hB0.trans (h1.below (fun k h => absurd h (fun h => h)) hB0.size)
    have hr2 : Recs w1 (w.heap.size + 1) 135 3 v1 (acc.map pcR) := by simpa using hr1
    refine ⟨v1, rfl, ?_, (hB1.setCell (p := ⟨w.heap.size, 0, none⟩) (Nat.le_refl _) _).setCell (p := ⟨w.heap.size, 1, none⟩) (Nat.le_refl _) _⟩
    exact ((hr2.setOld (by omega)).setOld (by omega)).base (by omega)

def lrcRSt (st : Unit) (s : List UInt8) : Option (Unit × List Pc) := (lrcT s).map fun ps => (st, ps)
def lrcR (t : List UInt8) : Except Nat (List Pc) := match walkG lrcRSt (linesOf t 0) () [] with
  | .error a => .error a
  | .ok (_, acc) => .ok acc
set_option maxHeartbeats 2000000 in
set_option maxRecDepth 100000 in
theorem lrcR_any (T : Teller 208 [] 1000000 (fun _ _ => True) (fun _ => False) lrcRSt) (t : List UInt8) (w : World) (ht : t.length ≤ 1000000) : Calls Tryz.prog 128 #[.string ⟨t.toArray⟩] w (ReadG (lrcR t) w) := by
  have hw : Calls Tryz.prog 205 #[.string ⟨t.toArray⟩, .func (.func 208) #[] #[]] (w.alloc (.cells #[.int .i64 0, .int .i64 0] 26)) (WalkGSays (fun _ => False) lrcRSt () t (w.alloc (.cells #[.int .i64 0, .int .i64 0] 26))) := walkG_any T () t _ trivial (fun k h => absurd h (fun h => h)) ht (Nat.le_refl _)
  unfold WalkGSays at hw
  have hB0 : Below w.heap.size w (w.alloc (.cells #[.int .i64 0, .int .i64 0] 26)) := (Below.refl _ _).alloc (Nat.le_refl _) _
  unfold ReadG lrcR
  rcases hS : walkG lrcRSt (linesOf t 0) () [] with a | ⟨st, acc⟩
  · rw [hS] at hw
    simp only at hw ⊢
    have HW := Lib.hid hw
    clear hw hS
    go_enter Tryz.func128, Tryz.ntmps128
    go_wp2_with (go_at_call 205; refine (HW.out).mono ?_; rintro e w1 ⟨rfl, h1⟩; have hf1 := block_away (at_a0 w _ _) h1 (fun h => h); have d0 := cell_at (j := 0) hf1; have d1 := cell_at (j := 1) hf1; have f0 := free_at (j := 0) hf1; have f1 := free_at (j := 1) hf1; simp only [List.getElem?_toArray, List.getElem?_cons_zero, List.getElem?_cons_succ] at d0 d1)
    refine end_tmp_cell rfl rfl rfl (show _ from store2 hf1 rfl) Tryz.underlying26 rfl (by kernel_rfl) ?_
    have hB1 : Below w.heap.size w w1 := hB0.trans (h1.below (fun k h => absurd h (fun h => h)) hB0.size)
    exact ⟨rfl, (hB1.setCell (p := ⟨w.heap.size, 0, none⟩) (Nat.le_refl _) (.int .i64 1)).setCell (p := ⟨w.heap.size, 1, none⟩) (Nat.le_refl _) (.int .i64 a)⟩
  · rw [hS] at hw
    simp only at hw ⊢
    have HW := Lib.hid hw
    clear hw hS
    go_enter Tryz.func128, Tryz.ntmps128
    go_wp2_with (go_at_call 205; refine (HW.out).mono ?_; rintro e w1 ⟨v1, rfl, hr1, h1⟩; have hf1 := block_away (at_a0 w _ _) h1 (fun h => h); have d0 := cell_at (j := 0) hf1; have d1 := cell_at (j := 1) hf1; have f0 := free_at (j := 0) hf1; have f1 := free_at (j := 1) hf1; simp only [List.getElem?_toArray, List.getElem?_cons_zero, List.getElem?_cons_succ] at d0 d1)
    refine end_tmp_cell rfl rfl rfl (show _ from store2 hf1 rfl) Tryz.underlying26 rfl (by kernel_rfl) ?_
    have hB1 : Below w.heap.size w w1 := hB0.trans (h1.below (fun k h => absurd h (fun h => h)) hB0.size)
    have hr2 : Recs w1 (w.heap.size + 1) 135 3 v1 (acc.map pcR) := by simpa using hr1
    refine ⟨v1, rfl, ?_, (hB1.setCell (p := ⟨w.heap.size, 0, none⟩) (Nat.le_refl _) _).setCell (p := ⟨w.heap.size, 1, none⟩) (Nat.le_refl _) _⟩
    exact ((hr2.setOld (by omega)).setOld (by omega)).base (by omega)

theorem teller_of {F : Nat} (f : List UInt8 → Option (List Pc)) (eF : ∀ args w, (callFunc F args).run Tryz.prog w = .ok (.enter F args) w)
    (h : ∀ (s : List UInt8) (w : World), s.length ≤ 1000000 → Calls Tryz.prog F #[.string ⟨s.toArray⟩] w (PcsSay (f s) w)) (hf : ∀ s ps, f s = some ps → ps.length ≤ 4 * s.length) :
    Teller F [] 1000000 (fun (_ : Unit) _ => True) (fun _ => False) (fun st s => (f s).map fun ps => (st, ps)) where
  enters := eF
  call := fun st s w _ hs => (h s w hs).mono fun e w' hh => by
    rcases hc : f s with _ | ps
    · rw [hc] at hh
      exact .inl ⟨rfl, hh.1, Away.of_below hh.2⟩
    · rw [hc] at hh
      obtain ⟨v, h1, h2, h3⟩ := hh
      exact .inr ⟨st, ps, v, rfl, h1, h2, trivial, Away.of_below h3⟩
  below := fun _ _ _ _ _ => trivial
  grown := fun _ _ _ _ _ _ _ => trivial
  few := fun st s st' ps hm => by
    obtain ⟨q, hq, he⟩ := Option.map_eq_some_iff.1 hm
    cases he
    exact hf s _ hq
end Go.Proofs.YtndpcphmndfajaaGreatDoor


