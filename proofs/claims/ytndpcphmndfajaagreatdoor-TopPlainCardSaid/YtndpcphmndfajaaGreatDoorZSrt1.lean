/- Subtitles (srt) as plain data; the line of times, walked. | Sheets (cue) as plain data: the pieces of a line. | Sheets (cue): word and timed, walked. | Sheets (cue): value, walked. -/
import Derived.Test.YtndpcphmndfajaaGreatDoorZLine4
import Derived.Test.YtndpcphmndfajaaGreatDoorShelf

namespace Go.Proofs.YtndpcphmndfajaaGreatDoor
open Go.RowKit
set_option linter.unusedVariables false

def formL : List UInt8 := [48, 48, 58, 48, 48, 58, 48, 48, 44, 48, 48, 48, 32, 45, 45, 62, 32, 48, 48, 58, 48, 48, 58, 48, 48, 44, 48, 48, 48]
def timesL (s : List UInt8) : Bool := decide (29 ≤ s.length) && likeL (s.take 29) formL && (s.length == 29 || s[29]? == some 32)
def sayP (s : List UInt8) : Pc := ⟨false, [116, 101, 120, 116], s⟩
def stepS (st cnt : Nat) (s : List UInt8) : Option (Nat × Nat × List Pc) :=
  if st = 1 then (if timesL s then some (2, cnt, [markL s]) else none)
  else if s = [] then some (0, cnt, [])
  else if st = 2 then some (2, cnt, [sayP s])
  else if digitsL s then some (1, cnt + 1, [markL s]) else none
def endP (e : List UInt8) : List Pc := if e = [] then [] else [markL e]
def walkS : List Ln → Nat → Nat → List Pc → Except Nat (Nat × Nat × List Pc)
  | [], st, cnt, acc => .ok (st, cnt, acc)
  | x :: r, st, cnt, acc => match stepS st cnt x.t with
    | none => .error x.a
    | some (st', cnt', ps) => walkS r st' cnt' (acc ++ ps ++ endP x.e)
/-- the pieces and how many blocks, or the place that is wrong -/
def readS (t : List UInt8) : Except Nat (Nat × List Pc) := match walkS (linesOf t 0) 0 0 [] with
  | .error a => .error a
  | .ok (st, cnt, acc) => if st = 1 then .error t.length else .ok (cnt, acc)

def TimesSays (s : List UInt8) (w : World) (e : Ending) (w' : World) : Prop := e = .returned (.bool (timesL s)) ∧ Below w.heap.size w w'
theorem times_short (s : List UInt8) (h : ¬ 29 ≤ s.length) : timesL s = false := by simp [timesL, h]
theorem times_unlike (s : List UInt8) (h : likeL (s.take 29) formL = false) : timesL s = false := by simp [timesL, h]
theorem times_just (s : List UInt8) (h : likeL (s.take 29) formL = true) (hl : s.length = 29) : timesL s = true := by simp [timesL, h, hl]
theorem times_more (s : List UInt8) (h : likeL (s.take 29) formL = true) (hl : 29 < s.length) : timesL s = (s[29] == 32) := by
  have h1 : ¬ s.length = 29 := by omega
  have h2 : 29 ≤ s.length := by omega
  simp [timesL, h, h1, h2, hl]

set_option maxHeartbeats 1000000 in
set_option maxRecDepth 100000 in
theorem times_any (s : List UInt8) (w : World) (hs : s.length ≤ 1000000000) : Calls Tryz.prog 322 #[.string ⟨s.toArray⟩] w (TimesSays s w) := by
  have HC := Lib.hid (fun w => like_any (s.take 29) formL w (by rw [List.length_take]; omega) (by decide))
  unfold TimesSays
  by_cases h1 : (29 : Int) ≤ s.length
  · have h29 : 29 ≤ s.length := by omega
    rcases hL : likeL (s.take 29) formL with _ | _
    · rw [times_unlike s hL]
      rw [hL] at HC
      clear hL
      go_enter Tryz.func322, Tryz.ntmps322
      go_wp2_with (go_at_call 84; refine (HC.out _).mono ?_; rintro e w1 ⟨rfl, hb1⟩)
      go_ret
      exact ⟨rfl, hb1⟩
    · rw [hL] at HC
      by_cases h2 : s.length = 29
      · rw [times_just s hL h2]
        have h3 : ((s.length : Int) == 29) = true := by simp; omega
        clear hL
        go_enter Tryz.func322, Tryz.ntmps322
        go_wp2_with (go_at_call 84; refine (HC.out _).mono ?_; rintro e w1 ⟨rfl, hb1⟩)
        go_ret
        exact ⟨rfl, hb1⟩
      · have h4 : 29 < s.length := by omega
        rw [times_more s hL h4]
        have h3 : ((s.length : Int) == 29) = false := by simp; omega
        have h5 : (29 : Int) < s.length := by omega
        clear hL
        rcases hE : ((s[29].toNat : Int) == 32) with _ | _
        · have he : (s[29] == 32) = false := by rw [beq_eq_false_iff_ne]; intro e; rw [e] at hE; simp at hE
          rw [he]
          clear he
          go_enter Tryz.func322, Tryz.ntmps322
          go_wp2_with (go_at_call 84; refine (HC.out _).mono ?_; rintro e w1 ⟨rfl, hb1⟩)
          go_ret
          exact ⟨rfl, hb1⟩
        · have he : (s[29] == 32) = true := by rw [beq_iff_eq]; exact (u8_lit _ 32 (by decide)).2 (by simpa using hE)
          rw [he]
          clear he
          go_enter Tryz.func322, Tryz.ntmps322
          go_wp2_with (go_at_call 84; refine (HC.out _).mono ?_; rintro e w1 ⟨rfl, hb1⟩)
          go_ret
          exact ⟨rfl, hb1⟩
  · rw [times_short s (by omega)]
    go_enter Tryz.func322, Tryz.ntmps322
    go_wp2
    go_ret
    exact ⟨rfl, Below.refl _ _⟩

end Go.Proofs.YtndpcphmndfajaaGreatDoor

namespace Go.Proofs.YtndpcphmndfajaaGreatDoor
open Go.RowKit
set_option linter.unusedVariables false

def blkB (b : UInt8) : Bool := b == 32 || b == 9
def capB (b : UInt8) : Bool := decide (65 ≤ b) && decide (b ≤ 90)
def wBeg (s : List UInt8) : Nat := (s.takeWhile blkB).length
def wEnd (s : List UInt8) : Nat := wBeg s + ((s.drop (wBeg s)).takeWhile capB).length
/-- a value's text, and how many bytes its sign has -/
def valueT (s : List UInt8) : Option (List UInt8 × Nat) :=
  if s.contains 34 then
    (if decide (s.length < 2) || !(s[0]? == some 34) || !(s[s.length - 1]? == some 34) then none
     else if ((s.drop 1).take (s.length - 2)).contains 34 then none else some ((s.drop 1).take (s.length - 2), 1))
  else if s = [] then none else some (s, 0)
def behP (s : List UInt8) : List Pc := if s = [] then [] else [markL s]
def valuedT (s name : List UInt8) (fr tp : Nat) : Option (List Pc) :=
  match valueT ((s.drop fr).take (tp - fr)) with
  | none => none
  | some (x, g) => some ([markL (s.take fr ++ (s.drop fr).take g), ⟨false, name, x⟩] ++ behP (s.drop (tp - g)))

theorem take_drop_cut (s : List UInt8) (a b : Nat) (h : a ≤ b) : s.take a ++ ((s.drop a).take (b - a) ++ s.drop b) = s := by
  have e : s.drop b = (s.drop a).drop (b - a) := by rw [List.drop_drop]; congr 1; omega
  rw [e, List.take_append_drop, List.take_append_drop]
theorem pcsT_beh (s : List UInt8) : (behP s).map (·.t) = if s = [] then [] else [s] := by
  unfold behP; split <;> rfl
theorem beh_flat (s : List UInt8) : ((behP s).map (·.t)).flatten = s := by
  unfold behP; split
  · simp_all
  · simp [markL]
/-- a value's sign, its text and its sign are the value -/
theorem valueT_whole (s x : List UInt8) (g : Nat) (h : valueT s = some (x, g)) : s.take g ++ (x ++ s.drop (s.length - g)) = s ∧ g ≤ 1 ∧ g ≤ s.length := by
  unfold valueT at h
  split at h
  · split at h
    · cases h
    · split at h
      · cases h
      · rename_i h1 h2
        cases h
        simp only [Bool.or_eq_true, not_or, decide_eq_true_eq] at h1
        have hl : 2 ≤ s.length := by omega
        refine ⟨?_, Nat.le_refl _, by omega⟩
        have := take_drop_cut s 1 (s.length - 1) (by omega)
        rw [show s.length - 1 - 1 = s.length - 2 by omega] at this
        exact this
  · split at h
    · cases h
    · cases h
      simp
theorem valuedT_whole (s name : List UInt8) (fr tp : Nat) (ps : List Pc) (h : valuedT s name fr tp = some ps) (h1 : fr ≤ tp) (h2 : tp ≤ s.length) : (ps.map (·.t)).flatten = s ∧ ps.length ≤ 3 := by
  unfold valuedT at h
  split at h
  · cases h
  · rename_i x g hv
    cases h
    obtain ⟨e, hg, hgl⟩ := valueT_whole _ _ _ hv
    have hlen : ((s.drop fr).take (tp - fr)).length = tp - fr := by rw [List.length_take, List.length_drop]; omega
    rw [hlen] at e hgl
    constructor
    · simp only [List.map_append, List.map_cons, List.map_nil, List.flatten_append, List.flatten_cons, List.flatten_nil, beh_flat, markL, List.append_nil]
      have e2 : ((s.drop fr).take (tp - fr)).take g = (s.drop fr).take g := by rw [List.take_take]; congr 1; omega
      have e3 : ((s.drop fr).take (tp - fr)).drop (tp - fr - g) ++ s.drop tp = s.drop (tp - g) := by
        have : s.drop (tp - g) = (s.drop fr).drop (tp - fr - g) := by rw [List.drop_drop]; congr 1; omega
        rw [this]
        have h5 : s.drop tp = (s.drop fr).drop (tp - fr) := by rw [List.drop_drop]; congr 1; omega
        rw [h5, ← List.drop_append_of_le_length (by rw [hlen]; omega), List.take_append_drop]
      rw [e2] at e
      have e4 := take_drop_cut s fr tp h1
      rw [← e] at e4
      simp only [List.append_assoc] at e4 ⊢
      rw [e3] at e4
      exact e4
    · simp only [List.length_append, List.length_cons, List.length_nil]
      unfold behP
      split <;> simp
def nREM : List UInt8 := [82, 69, 77]
def nTITLE : List UInt8 := [84, 73, 84, 76, 69]
def nPERFORMER : List UInt8 := [80, 69, 82, 70, 79, 82, 77, 69, 82]
def nSONGWRITER : List UInt8 := [83, 79, 78, 71, 87, 82, 73, 84, 69, 82]
def nFILE : List UInt8 := [70, 73, 76, 69]
def nTRACK : List UInt8 := [84, 82, 65, 67, 75]
def nINDEX : List UInt8 := [73, 78, 68, 69, 88]
def nPREGAP : List UInt8 := [80, 82, 69, 71, 65, 80]
def nPOSTGAP : List UInt8 := [80, 79, 83, 84, 71, 65, 80]
def nCATALOG : List UInt8 := [67, 65, 84, 65, 76, 79, 71]
def nISRC : List UInt8 := [73, 83, 82, 67]
def nFLAGS : List UInt8 := [70, 76, 65, 71, 83]
def premark : List UInt8 := [114, 101, 109, 97, 114, 107]
def ptitle : List UInt8 := [116, 105, 116, 108, 101]
def pperformer : List UInt8 := [112, 101, 114, 102, 111, 114, 109, 101, 114]
def psongwriter : List UInt8 := [115, 111, 110, 103, 119, 114, 105, 116, 101, 114]
def pfile : List UInt8 := [102, 105, 108, 101]
def momL : List UInt8 := [48, 48, 58, 48, 48, 58, 48, 48]
def timedT (s : List UInt8) : Bool := likeL s momL
def numbT (asked : List UInt8 → Bool) (s : List UInt8) : Bool := decide (2 < s.length) && likeL (s.take 2) [48, 48] && s[2]? == some 32 && asked (s.drop 3)
def listT' (s : List UInt8) : Bool := !s.isEmpty && !(s[0]? == some 32) && s.all fun c => c == 32 || isCap c
def wholeT (s : List UInt8) (ok : Bool) : Option (List Pc) := if ok then some [markL s] else none
/-- the last place of a byte -/
def lastB (c : UInt8) : List UInt8 → Option Nat
  | [] => none
  | x :: r => match lastB c r with
    | some k => some (k + 1)
    | none => if x = c then some 0 else none
theorem lastB_lt (c : UInt8) : ∀ (l : List UInt8) (k : Nat), lastB c l = some k → k < l.length
  | [], k, h => by cases h
  | x :: r, k, h => by
    unfold lastB at h
    split at h
    · rename_i j hj
      cases h
      have := lastB_lt c r j hj
      simp; omega
    · split at h
      · cases h; simp
      · cases h
/-- behind the word and a blank -/
def cueN (name s : List UInt8) (fr : Nat) : Option (List Pc) :=
  if name = nREM then some [markL (s.take fr), ⟨false, premark, s.drop fr⟩]
  else if name = nTITLE then valuedT s ptitle fr s.length
  else if name = nPERFORMER then valuedT s pperformer fr s.length
  else if name = nSONGWRITER then valuedT s psongwriter fr s.length
  else if name = nFILE then (match lastB 32 (s.drop fr) with
    | none => none
    | some k => if capsL ((s.drop fr).drop (k + 1)) then valuedT s pfile fr (fr + k) else none)
  else if name = nTRACK then wholeT s (numbT capsL (s.drop fr))
  else if name = nINDEX then wholeT s (numbT timedT (s.drop fr))
  else if name = nPREGAP then wholeT s (timedT (s.drop fr))
  else if name = nPOSTGAP then wholeT s (timedT (s.drop fr))
  else if name = nCATALOG then wholeT s (listT' (s.drop fr))
  else if name = nISRC then wholeT s (listT' (s.drop fr))
  else if name = nFLAGS then wholeT s (listT' (s.drop fr))
  else none
def cueT (s : List UInt8) : Option (List Pc) :=
  if wBeg s = s.length then some (behP s)
  else if wEnd s = s.length then wholeT s (decide ((s.drop (wBeg s)).take (wEnd s - wBeg s) = nREM))
  else if s[wEnd s]? = some 32 then cueN ((s.drop (wBeg s)).take (wEnd s - wBeg s)) s (wEnd s + 1)
  else none
theorem takeWhile_le (p : UInt8 → Bool) : ∀ l : List UInt8, (l.takeWhile p).length ≤ l.length
  | [] => by simp
  | x :: r => by
    rw [List.takeWhile_cons]
    split
    · have := takeWhile_le p r; simp; omega
    · simp
theorem wBeg_le (s : List UInt8) : wBeg s ≤ s.length := takeWhile_le _ _
theorem wEnd_le (s : List UInt8) : wBeg s ≤ wEnd s ∧ wEnd s ≤ s.length := by
  have h1 := wBeg_le s
  have h2 := takeWhile_le capB (s.drop (wBeg s))
  rw [List.length_drop] at h2
  unfold wEnd
  omega
theorem wholeT_whole (s : List UInt8) (ok : Bool) (ps : List Pc) (h : wholeT s ok = some ps) : (ps.map (·.t)).flatten = s ∧ ps.length ≤ 3 := by
  unfold wholeT at h
  split at h
  · cases h; simp [markL]
  · cases h
theorem ite_some {α : Type} {P c : Prop} [Decidable c] {a b : Option α} {x : α} (h : (if c then a else b) = some x) (ha : a = some x → P) (hb : b = some x → P) : P := by
  by_cases hc : c
  · rw [if_pos hc] at h; exact ha h
  · rw [if_neg hc] at h; exact hb h
theorem cueN_whole (name s : List UInt8) (fr : Nat) (ps : List Pc) (hf : fr ≤ s.length) (h : cueN name s fr = some ps) : (ps.map (·.t)).flatten = s ∧ ps.length ≤ 3 := by
  have V := fun n h => valuedT_whole s n fr s.length ps h hf (Nat.le_refl _)
  have W := fun ok h => wholeT_whole s ok ps h
  unfold cueN at h
  refine ite_some h (fun h => ?_) fun h => ite_some h (V _) fun h => ite_some h (V _) fun h => ite_some h (V _) fun h => ite_some h (fun h => ?_) fun h => ite_some h (W _) fun h => ite_some h (W _) fun h => ite_some h (W _) fun h => ite_some h (W _) fun h => ite_some h (W _) fun h => ite_some h (W _) fun h => ite_some h (W _) fun h => by cases h
  · cases h
    simp [markL]
  · rcases hk : lastB 32 (s.drop fr) with _ | k
    · rw [hk] at h; cases h
    · rw [hk] at h
      have h9 := lastB_lt _ _ _ hk
      rw [List.length_drop] at h9
      exact ite_some h (fun h => valuedT_whole _ _ _ _ _ h (by omega) (by omega)) fun h => by cases h
theorem cueT_whole (s : List UInt8) (ps : List Pc) (h : cueT s = some ps) : (ps.map (·.t)).flatten = s ∧ ps.length ≤ 3 := by
  unfold cueT at h
  split at h
  · cases h
    exact ⟨beh_flat s, by unfold behP; split <;> simp⟩
  · split at h
    · exact wholeT_whole _ _ _ h
    · split at h
      · rename_i h1 h2 h3
        have := (List.getElem?_eq_some_iff.1 h3).1
        exact cueN_whole _ _ _ _ (by omega) h
      · cases h
theorem cueT_nil : cueT [] = some [] := rfl
theorem cueT_few (s : List UInt8) (ps : List Pc) (h : cueT s = some ps) : ps.length ≤ 4 * s.length := by
  rcases s with _ | ⟨x, r⟩
  · rw [cueT_nil] at h; cases h; simp
  · have := (cueT_whole _ _ h).2
    simp; omega
end Go.Proofs.YtndpcphmndfajaaGreatDoor

namespace Go.Proofs.YtndpcphmndfajaaGreatDoor
open Go.RowKit
set_option linter.unusedVariables false
set_option linter.unusedSimpArgs false

theorem tw_len (p : UInt8 → Bool) : ∀ (l : List UInt8) (n : Nat), n ≤ l.length → (∀ i (hi : i < l.length), i < n → p l[i] = true) → (∀ (hlt : n < l.length), p l[n] = false) → (l.takeWhile p).length = n
  | [], n, hn, _, _ => by simp at hn; simp [hn]
  | x :: r, 0, hn, h, he => by
    have := he (by simp)
    simp only [List.getElem_cons_zero] at this
    simp [List.takeWhile_cons, this]
  | x :: r, n + 1, hn, h, he => by
    have h0 := h 0 (by simp) (by omega)
    simp only [List.getElem_cons_zero] at h0
    have ih := tw_len p r n (by simpa using hn) (fun i hi hlt => by have := h (i + 1) (by simp; omega) (by omega); simpa using this) (fun hlt => by have := he (by simp; omega); simpa using this)
    simp [List.takeWhile_cons, h0, ih]
theorem blk_no (c : UInt8) (h1 : ((c.toNat : Int) == 32) = false) (h2 : ((c.toNat : Int) == 9) = false) : blkB c = false := by
  have a : c ≠ 32 := fun e => by rw [e] at h1; simp at h1
  have b : c ≠ 9 := fun e => by rw [e] at h2; simp at h2
  simp [blkB, a, b]
theorem cap_int (c : UInt8) : capB c = (decide ((65 : Int) ≤ c.toNat) && decide ((c.toNat : Int) ≤ 90)) := by
  have a : (65 ≤ c) ↔ ((65 : Int) ≤ c.toNat) := by rw [UInt8.le_iff_toNat_le]; simp; omega
  have b : (c ≤ 90) ↔ ((c.toNat : Int) ≤ 90) := by rw [UInt8.le_iff_toNat_le]; simp; omega
  simp only [capB, a, b]
theorem wEnd_is (s : List UInt8) (e : Nat) (hb : wBeg s ≤ e) (he : e ≤ s.length) (h : ∀ i (hi : i < s.length), wBeg s ≤ i → i < e → capB s[i] = true) (hx : ∀ (hlt : e < s.length), capB s[e] = false) : wEnd s = e := by
  unfold wEnd
  rw [tw_len capB (s.drop (wBeg s)) (e - wBeg s) (by rw [List.length_drop]; omega) (fun i hi hlt => by
    rw [List.getElem_drop]; exact h _ _ (by omega) (by omega)) (fun hlt => by
    rw [List.getElem_drop]
    have e9 : wBeg s + (e - wBeg s) = e := by omega
    simp only [e9]
    exact hx (by rw [List.length_drop] at hlt; omega))]
  omega

set_option maxHeartbeats 2000000 in
set_option maxRecDepth 100000 in
theorem word_any (s : List UInt8) (w : World) (hs : s.length ≤ 1000000000) :
    Calls Tryz.prog 162 #[.string ⟨s.toArray⟩] w fun e w' => e = .returned (.tuple #[.int .i64 (wBeg s), .int .i64 (wEnd s)]) ∧ w = w' := by
  go_enter Tryz.func162, Tryz.ntmps162
  go_wp2
  go_loopw [4] (fun i wr => ∃ (k : Nat), k ≤ s.length ∧ i = .int .i64 k ∧ Hid (∀ i (hi : i < s.length), i < k → blkB s[i] = true) ∧ Hid (wr = w)) (fun i _ => s.length - (intOf i).toNat)
  case atStart => exact ⟨0, by omega, rfl, Lib.hid (fun i _ h1 => absurd h1 (by omega)), Lib.hid rfl⟩
  case round =>
    obtain ⟨k, hk, rfl, HI, HW⟩ := hrel
    have hgo : (k < s.length ∧ wBeg s ≠ k) ∨ wBeg s = k := by
      by_cases h : wBeg s = k
      · exact .inr h
      · refine .inl ⟨?_, h⟩
        rcases Nat.lt_or_ge k s.length with h1 | h1
        · exact h1
        · exact absurd (tw_len blkB s k hk HI.out (fun h2 => absurd h2 (by omega))) h
    rcases hgo with ⟨hlt, hne⟩ | hE
    · have h0 : (k : Int) < s.length := by omega
      have b1 : (k : Int) + 1 ≤ s.length := by omega
      have hblk : blkB s[k] = true := by
        rcases h : blkB s[k] with _ | _
        · exact absurd (tw_len blkB s k hk HI.out (fun _ => h)) hne
        · rfl
      have hnext : ∀ i (hi : i < s.length), i < k + 1 → blkB s[i] = true := fun i hi h1 => by
        by_cases hik : i < k
        · exact HI.out i hi hik
        · obtain rfl : i = k := by omega
          exact hblk
      have HN := Lib.hid hnext
      clear hnext hne
      rcases hA : ((s[k].toNat : Int) == 32) with _ | _
      · rcases hB : ((s[k].toNat : Int) == 9) with _ | _
        · rw [blk_no _ hA hB] at hblk
          cases hblk
        · clear hblk
          go_wp2
          exact ⟨⟨k + 1, by omega, by simp, HN, HW⟩, by simp [intOf]; omega⟩
      · clear hblk
        go_wp2
        exact ⟨⟨k + 1, by omega, by simp, HN, HW⟩, by simp [intOf]; omega⟩
    · have HE := Lib.hid hE
      have hstop : ∀ (hlt : k < s.length), blkB s[k] = false := fun hlt => by
        rcases h : blkB s[k] with _ | _
        · rfl
        · exfalso
          have h6 : ∀ (l : List UInt8) (n : Nat), (l.takeWhile blkB).length = n → ∀ (hn : n < l.length), blkB l[n] = false := by
            intro l
            induction l with
            | nil => intro n _ hn; simp at hn
            | cons x r ih =>
              intro n hl hn
              rw [List.takeWhile_cons] at hl
              by_cases hx : blkB x = true
              · rw [if_pos hx] at hl
                cases n with
                | zero => simp at hl
                | succ n => simpa using ih n (by simpa using hl) (by simpa using hn)
              · rw [if_neg hx] at hl
                subst hl
                simpa using hx
          rw [h6 s k hE hlt] at h
          cases h
      have hw2 : ∀ (K : Prop), (((k : Int) < s.length) → ∀ (hlt : k < s.length), ((s[k].toNat : Int) == 32) = false → ((s[k].toNat : Int) == 9) = false → K) → (¬ ((k : Int) < s.length) → K) → K := fun K h1 h2 => by
        by_cases hlt : k < s.length
        · have := hstop hlt
          refine h1 (by omega) hlt ?_ ?_
          · rcases h : ((s[k].toNat : Int) == 32) with _ | _
            · rfl
            · have e9 : s[k] = 32 := (u8_lit s[k] 32 (by decide)).2 (by simpa using h)
              rw [e9] at this; cases this
          · rcases h : ((s[k].toNat : Int) == 9) with _ | _
            · rfl
            · have e9 : s[k] = 9 := (u8_lit s[k] 9 (by decide)).2 (by simpa using h)
              rw [e9] at this; cases this
        · exact h2 (by omega)
      clear hE hstop HI
      apply hw2 <;> clear hw2
      · intro h0 hlt hA hB
        go_wp2
        go_loopw [5] (fun i wx => ∃ (e : Nat), k ≤ e ∧ e ≤ s.length ∧ i = .int .i64 e ∧ Hid (∀ i (hi : i < s.length), k ≤ i → i < e → capB s[i] = true) ∧ Hid (wx = w)) (fun i _ => s.length - (intOf i).toNat)
        case atStart => exact ⟨k, by omega, hk, rfl, Lib.hid (fun i _ h1 h2 => absurd h1 (by omega)), HW⟩
        case round =>
          obtain ⟨e, hke, hel, rfl, HI2, HW2⟩ := hrel
          by_cases hle : e < s.length
          · have g0 : (e : Int) < s.length := by omega
            have g1 : (e : Int) + 1 ≤ s.length := by omega
            have hc := cap_int s[e]
            rcases hA2 : decide ((65 : Int) ≤ s[e].toNat) with _ | _
            · have HZ := Lib.hid (wEnd_is s e (by rw [HE.out]; exact hke) hel (fun i hi h1 h2 => HI2.out i hi (by rw [HE.out] at h1; exact h1) h2) (fun _ => by rw [hc, hA2]; rfl))
              clear hc
              have hA3 : ¬ (65 : Int) ≤ s[e].toNat := by simpa using hA2
              go_wp2
              go_ret2
              exact ⟨by rw [HZ.out, HE.out]; rfl, HW2.out.symm⟩
            · have hA3 : (65 : Int) ≤ s[e].toNat := by simpa using hA2
              rcases hB2 : decide ((s[e].toNat : Int) ≤ 90) with _ | _
              · have HZ := Lib.hid (wEnd_is s e (by rw [HE.out]; exact hke) hel (fun i hi h1 h2 => HI2.out i hi (by rw [HE.out] at h1; exact h1) h2) (fun _ => by rw [hc, hA2, hB2]; rfl))
                clear hc
                have hB3 : ¬ (s[e].toNat : Int) ≤ 90 := by simpa using hB2
                go_wp2
                go_ret2
                exact ⟨by rw [HZ.out, HE.out]; rfl, HW2.out.symm⟩
              · have hcap : capB s[e] = true := by rw [hc, hA2, hB2]; rfl
                have hB3 : (s[e].toNat : Int) ≤ 90 := by simpa using hB2
                have HN2 := Lib.hid (show ∀ i (hi : i < s.length), k ≤ i → i < e + 1 → capB s[i] = true from fun i hi h1 h3 => by
                  by_cases hie : i < e
                  · exact HI2.out i hi h1 hie
                  · obtain rfl : i = e := by omega
                    exact hcap)
                clear hc hcap
                go_wp2
                exact ⟨⟨e + 1, by omega, by omega, by simp, HN2, HW2⟩, by simp [intOf]; omega⟩
          · have g0 : ¬ (e : Int) < s.length := by omega
            have HZ := Lib.hid (wEnd_is s e (by rw [HE.out]; exact hke) hel (fun i hi h1 h2 => HI2.out i hi (by rw [HE.out] at h1; exact h1) h2) (fun h => absurd h hle))
            go_wp2
            go_ret2
            exact ⟨by rw [HZ.out, HE.out]; rfl, HW2.out.symm⟩
      · intro h0
        go_wp2
        go_loopw [5] (fun i wx => ∃ (e : Nat), k ≤ e ∧ e ≤ s.length ∧ i = .int .i64 e ∧ Hid (∀ i (hi : i < s.length), k ≤ i → i < e → capB s[i] = true) ∧ Hid (wx = w)) (fun i _ => s.length - (intOf i).toNat)
        case atStart => exact ⟨k, by omega, hk, rfl, Lib.hid (fun i _ h1 h2 => absurd h1 (by omega)), HW⟩
        case round =>
          obtain ⟨e, hke, hel, rfl, HI2, HW2⟩ := hrel
          by_cases hle : e < s.length
          · have g0 : (e : Int) < s.length := by omega
            have g1 : (e : Int) + 1 ≤ s.length := by omega
            have hc := cap_int s[e]
            rcases hA2 : decide ((65 : Int) ≤ s[e].toNat) with _ | _
            · have HZ := Lib.hid (wEnd_is s e (by rw [HE.out]; exact hke) hel (fun i hi h1 h2 => HI2.out i hi (by rw [HE.out] at h1; exact h1) h2) (fun _ => by rw [hc, hA2]; rfl))
              clear hc
              have hA3 : ¬ (65 : Int) ≤ s[e].toNat := by simpa using hA2
              go_wp2
              go_ret2
              exact ⟨by rw [HZ.out, HE.out]; rfl, HW2.out.symm⟩
            · have hA3 : (65 : Int) ≤ s[e].toNat := by simpa using hA2
              rcases hB2 : decide ((s[e].toNat : Int) ≤ 90) with _ | _
              · have HZ := Lib.hid (wEnd_is s e (by rw [HE.out]; exact hke) hel (fun i hi h1 h2 => HI2.out i hi (by rw [HE.out] at h1; exact h1) h2) (fun _ => by rw [hc, hA2, hB2]; rfl))
                clear hc
                have hB3 : ¬ (s[e].toNat : Int) ≤ 90 := by simpa using hB2
                go_wp2
                go_ret2
                exact ⟨by rw [HZ.out, HE.out]; rfl, HW2.out.symm⟩
              · have hcap : capB s[e] = true := by rw [hc, hA2, hB2]; rfl
                have hB3 : (s[e].toNat : Int) ≤ 90 := by simpa using hB2
                have HN2 := Lib.hid (show ∀ i (hi : i < s.length), k ≤ i → i < e + 1 → capB s[i] = true from fun i hi h1 h3 => by
                  by_cases hie : i < e
                  · exact HI2.out i hi h1 hie
                  · obtain rfl : i = e := by omega
                    exact hcap)
                clear hc hcap
                go_wp2
                exact ⟨⟨e + 1, by omega, by omega, by simp, HN2, HW2⟩, by simp [intOf]; omega⟩
          · have g0 : ¬ (e : Int) < s.length := by omega
            have HZ := Lib.hid (wEnd_is s e (by rw [HE.out]; exact hke) hel (fun i hi h1 h2 => HI2.out i hi (by rw [HE.out] at h1; exact h1) h2) (fun h => absurd h hle))
            go_wp2
            go_ret2
            exact ⟨by rw [HZ.out, HE.out]; rfl, HW2.out.symm⟩
end Go.Proofs.YtndpcphmndfajaaGreatDoor

namespace Go.Proofs.YtndpcphmndfajaaGreatDoor
open Go.RowKit
set_option linter.unusedVariables false
set_option linter.unusedSimpArgs false

theorem has_byte (c : UInt8) : ∀ l : List UInt8, decide (0 ≤ Lib.indexByte l c) = l.contains c
  | [] => rfl
  | x :: r => by
    have ih := has_byte c r
    have hg := Lib.indexByte_ge r c
    unfold Lib.indexByte
    rw [List.contains_cons]
    by_cases hx : x = c
    · subst hx; simp
    · have hb : (x == c) = false := by simpa using hx
      have hb2 : (c == x) = false := by simpa using fun e : c = x => hx e.symm
      rw [hb2, Bool.false_or, ← ih]
      simp only [hb]
      by_cases h1 : Lib.indexByte r c = -1
      · simp [h1]
      · have h2 : 0 ≤ Lib.indexByte r c := by omega
        have h3 : 0 ≤ Lib.indexByte r c + 1 := by omega
        simp [h1, h2, h3]
theorem has_any (s : List UInt8) (c : UInt8) (w : World) : Calls Tryz.prog 301 #[.string ⟨s.toArray⟩, .string ⟨#[c]⟩] w fun e w' => e = .returned (.bool (s.contains c)) ∧ w = w' :=
  (Tryz.strings_Contains_one ⟨s.toArray⟩ c w).mono fun e w' ⟨h1, h2⟩ => ⟨by rw [h1, ← has_byte], h2.symm⟩
def valV (s : List UInt8) : Value := match valueT s with
  | none => .tuple #[.string ⟨#[]⟩, .int .i64 0, .bool false]
  | some (x, g) => .tuple #[.string ⟨x.toArray⟩, .int .i64 g, .bool true]
set_option maxHeartbeats 2000000 in
set_option maxRecDepth 100000 in
theorem value_any (s : List UInt8) (w : World) (hs : s.length ≤ 1000000000) : Calls Tryz.prog 250 #[.string ⟨s.toArray⟩] w fun e w' => e = .returned (valV s) ∧ w = w' := by
  rcases hQ : s.contains 34 with _ | _
  · have HC := Lib.hid (fun w => has_any s 34 w)
    rw [hQ] at HC
    by_cases hE : s = []
    · have hv : valV s = .tuple #[.string ⟨#[]⟩, .int .i64 0, .bool false] := by unfold valV valueT; rw [hQ, hE]; rfl
      rw [hv]
      subst hE
      clear hv hQ
      go_enter Tryz.func250, Tryz.ntmps250
      go_wp2_with (go_at_call 301; refine (HC.out _).mono ?_; rintro e w1 ⟨rfl, rfl⟩)
      go_ret3
      exact ⟨rfl, rfl⟩
    · have hv : valV s = .tuple #[.string ⟨s.toArray⟩, .int .i64 0, .bool true] := by unfold valV valueT; rw [hQ]; simp [hE]
      rw [hv]
      have hE1 : s.isEmpty = false := by cases s; exact absurd rfl hE; rfl
      have hE2 : (s.isEmpty = true) = False := by rw [hE1]; simp
      clear hv hQ
      go_enter Tryz.func250, Tryz.ntmps250
      go_wp2_with (go_at_call 301; refine (HC.out _).mono ?_; rintro e w1 ⟨rfl, rfl⟩)
      go_ret3
      exact ⟨rfl, rfl⟩
  · have HC := Lib.hid (fun w => has_any s 34 w)
    rw [hQ] at HC
    have bad : valueT s = none → valV s = .tuple #[.string ⟨#[]⟩, .int .i64 0, .bool false] := fun h => by unfold valV; rw [h]
    have h0 : valueT s = (if decide (s.length < 2) || !(s[0]? == some 34) || !(s[s.length - 1]? == some 34) then none
     else if ((s.drop 1).take (s.length - 2)).contains 34 then none else some ((s.drop 1).take (s.length - 2), 1)) := by unfold valueT; rw [hQ]; rfl
    clear hQ
    by_cases hl : s.length < 2
    · have hl2 : (s.length : Int) < 2 := by omega
      rw [bad (by rw [h0]; simp [hl])]
      clear bad h0
      go_enter Tryz.func250, Tryz.ntmps250
      go_wp2_with (go_at_call 301; refine (HC.out _).mono ?_; rintro e w1 ⟨rfl, rfl⟩)
      go_ret3
      exact ⟨rfl, rfl⟩
    · have hl2 : ¬ (s.length : Int) < 2 := by omega
      have hp : 0 < s.length := by omega
      have hp2 : s.length - 1 < s.length := by omega
      have g0 : s[0]? = some s[0] := List.getElem?_eq_getElem hp
      have g1 : s[s.length - 1]? = some s[s.length - 1] := List.getElem?_eq_getElem hp2
      have lit : ∀ c : UInt8, (c == 34) = ((c.toNat : Int) == 34) := fun c => by
        have := u8_lit c 34 (by decide)
        rw [Bool.eq_iff_iff]
        simp only [beq_iff_eq]
        exact this
      have ob : ∀ c : UInt8, ((some c : Option UInt8) == some 34) = ((c.toNat : Int) == 34) := fun c => by rw [← lit]; rfl
      rw [g0, g1, ob, ob] at h0
      have hl3 : decide (s.length < 2) = false := by simpa using hl
      rw [hl3, Bool.false_or] at h0
      clear g0 g1
      rcases hA : ((s[0].toNat : Int) == 34) with _ | _
      · rw [bad (by rw [h0, hA]; rfl)]
        have hA2 : ((s[0].toNat : Int) != 34) = true := by simpa using hA
        clear bad h0 hA
        go_enter Tryz.func250, Tryz.ntmps250
        go_wp2_with (go_at_call 301; refine (HC.out _).mono ?_; rintro e w1 ⟨rfl, rfl⟩)
        go_ret3
        exact ⟨rfl, rfl⟩
      · have hA2 : ((s[0].toNat : Int) != 34) = false := by simpa using hA
        have hd2 : decide ((s.length : Int) < 2) = false := by simpa using hl2
        have b1 : (0 : Int) ≤ (s.length : Int) - 1 := by omega
        have b2 : (s.length : Int) - 1 < s.length := by omega
        have b3 : (1 : Int) ≤ (s.length : Int) - 1 := by omega
        have b4 : (s.length : Int) - 1 ≤ s.length := by omega
        have b5 : ((s.length : Int) - 1).toNat = s.length - 1 := by omega
        rcases hB : ((s[s.length - 1].toNat : Int) == 34) with _ | _
        · rw [bad (by rw [h0, hA, hB]; rfl)]
          have hB2 : ((s[s.length - 1].toNat : Int) != 34) = true := by simpa using hB
          clear bad h0 hA hB
          go_enter Tryz.func250, Tryz.ntmps250
          go_wp2_with (go_at_call 301; refine (HC.out _).mono ?_; rintro e w1 ⟨rfl, rfl⟩)
          go_ret3
          exact ⟨rfl, rfl⟩
        · have hB2 : ((s[s.length - 1].toNat : Int) != 34) = false := by simpa using hB
          rw [hA, hB] at h0
          simp only [Bool.not_true, Bool.or_self, Bool.false_eq_true, if_false] at h0
          have hm : (s.drop 1).take (s.length - 2) = s.tail.take (s.length - 1 - 1) := by rw [List.drop_one]; rfl
          rw [hm] at h0
          have H2 := Lib.hid (fun w => has_any (s.tail.take (s.length - 1 - 1)) 34 w)
          rcases hM : (s.tail.take (s.length - 1 - 1)).contains 34 with _ | _
          · rw [hM] at H2 h0
            have hv : valV s = .tuple #[.string ⟨(s.tail.take (s.length - 1 - 1)).toArray⟩, .int .i64 1, .bool true] := by unfold valV; rw [h0]; rfl
            rw [hv]
            clear hv h0 hM bad hA hB hm
            go_enter Tryz.func250, Tryz.ntmps250
            go_upto_region 6 with (go_at_call 301; refine (HC.out _).mono ?_; rintro e w1 ⟨rfl, rfl⟩)
            clear HC
            generalize hg : s.tail.take (s.length - 1 - 1) = m at *
            have HG := Lib.hid hg
            clear hg
            go_wp2_with (go_at_call 301; refine (H2.out _).mono ?_; rintro e w1 ⟨rfl, rfl⟩)
            go_ret3
            have hg := HG.out
            subst hg
            exact ⟨rfl, rfl⟩
          · rw [hM] at H2 h0
            rw [bad (by rw [h0]; rfl)]
            clear h0 hM bad hA hB hm
            go_enter Tryz.func250, Tryz.ntmps250
            go_upto_region 6 with (go_at_call 301; refine (HC.out _).mono ?_; rintro e w1 ⟨rfl, rfl⟩)
            clear HC
            generalize hg : s.tail.take (s.length - 1 - 1) = m at *
            have HG := Lib.hid hg
            clear hg
            go_wp2_with (go_at_call 301; refine (H2.out _).mono ?_; rintro e w1 ⟨rfl, rfl⟩)
            go_ret3
            have hg := HG.out
            subst hg
            exact ⟨rfl, rfl⟩
end Go.Proofs.YtndpcphmndfajaaGreatDoor
