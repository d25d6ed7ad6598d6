/- The walks of layer 22 (line): Digits, Capitals, Like; the document's. | The walks of layer 22 (line): Whole, Mark, Text. | Layer 22 (line): the statements' example; the walk of LineForms. -/
import Derived.Test.YtndpcphmndfajaaGreatDoorZLine2
import Derived.Deep.QuietTactic
import Derived.BigQuiet

namespace Go.Proofs.YtndpcphmndfajaaGreatDoor
open Go.RowKit
set_option linter.unusedVariables false

theorem all_no {p : UInt8 → Bool} {l : List UInt8} (k : Nat) (h : k < l.length) (hp : p l[k] = false) : l.all p = false := by
  rw [List.all_eq_false]
  exact ⟨l[k], List.getElem_mem h, by simp [hp]⟩
theorem all_take {p : UInt8 → Bool} {l : List UInt8} (k : Nat) (h : k < l.length) (h0 : (l.take k).all p = true) (hp : p l[k] = true) : (l.take (k + 1)).all p = true := by
  rw [List.take_succ_eq_append_getElem h, List.all_append, h0]; simp [hp]
theorem isDigit_int (c : UInt8) : isDigit c = decide ((48 : Int) ≤ c.toNat ∧ (c.toNat : Int) ≤ 57) := by
  unfold isDigit; congr 1; exact propext ⟨fun h => by omega, fun h => by omega⟩

set_option maxRecDepth 100000 in
theorem digit_any (c : UInt8) (w : World) : Calls Tryz.prog 161 #[.int .u8 c.toNat] w fun e w' => e = .returned (.bool (isDigit c)) ∧ w = w' := by
  rw [isDigit_int]
  by_cases h1 : (48 : Int) ≤ c.toNat
  · by_cases h2 : (c.toNat : Int) ≤ 57
    · go_enter Tryz.func161, Tryz.ntmps161
      go_wp2
      go_ret
      exact ⟨ret_bool (by first | (simp; done) | (simp; omega) | (simp_all; done) | (simp_all; omega)), rfl⟩
    · go_enter Tryz.func161, Tryz.ntmps161
      go_wp2
      go_ret
      exact ⟨ret_bool (by first | (simp; done) | (simp; omega) | (simp_all; done) | (simp_all; omega)), rfl⟩
  · go_enter Tryz.func161, Tryz.ntmps161
    go_wp2
    go_ret
    exact ⟨ret_bool (by first | (simp; done) | (simp; omega) | (simp_all; done) | (simp_all; omega)), rfl⟩

theorem isCap_int (c : UInt8) : isCap c = (isDigit c || decide ((65 : Int) ≤ c.toNat ∧ (c.toNat : Int) ≤ 90)) := by
  unfold isCap; congr 2; exact propext ⟨fun h => by omega, fun h => by omega⟩
set_option maxHeartbeats 1000000 in
set_option maxRecDepth 100000 in
theorem digits_any (l : List UInt8) (w : World) (hl : l.length ≤ 1000000000) : Calls Tryz.prog 83 #[.string ⟨l.toArray⟩] w fun e w' => e = .returned (.bool (digitsL l)) ∧ w = w' := by
  go_enter Tryz.func83, Tryz.ntmps83
  go_wp2
  go_loopw [6] (fun i wr => ∃ (k : Nat), k ≤ l.length ∧ i = .int .i64 k ∧ Hid ((l.take k).all isDigit = true) ∧ wr = w) (fun i _ => l.length - (intOf i).toNat)
  case atStart => exact ⟨0, by omega, rfl, Lib.hid (by simp), rfl⟩
  case round =>
    obtain ⟨k, hk, rfl, HA, rfl⟩ := hrel
    by_cases hlt : k < l.length
    · have h0 : (k : Int) < l.length := by omega
      have HC := Lib.hid (fun w => digit_any l[k] w)
      rcases hP : isDigit l[k] with _ | _
      · rw [hP] at HC
        have HF := Lib.hid (all_no k hlt hP)
        clear hP
        go_wp2_with (go_at_call 161; refine (HC.out _).mono ?_; rintro e w1 ⟨rfl, rfl⟩)
        go_ret
        exact ⟨ret_bool (by simp [digitsL, HF.out]), rfl⟩
      · rw [hP] at HC
        have HT := Lib.hid (all_take k hlt HA.out hP)
        clear hP
        go_wp2_with (go_at_call 161; refine (HC.out _).mono ?_; rintro e w1 ⟨rfl, rfl⟩)
        exact ⟨⟨k + 1, by omega, by simp, HT, by first | rfl | trivial⟩, by simp [intOf]; omega⟩
    · have h0 : ¬ (k : Int) < l.length := by omega
      have ht := HA.out
      rw [List.take_of_length_le (by omega)] at ht
      have HT := Lib.hid ht
      clear ht
      have HZ : digitsL l = !l.isEmpty := by simp [digitsL, HT.out]
      rcases hE : l.isEmpty with _ | _
      · have hp : (0 : Int) < l.length := by cases l <;> simp at hE ⊢ <;> omega
        go_wp2
        go_ret
        exact ⟨ret_bool (by first | rfl | (simp; done) | (simp; omega) | (simp; exact List.isEmpty_iff.1 hE)), rfl⟩
      · have hp : ¬ (0 : Int) < l.length := by cases l <;> simp at hE ⊢
        go_wp2
        go_ret
        exact ⟨ret_bool (by first | rfl | (simp; done) | (simp; omega) | (simp; exact List.isEmpty_iff.1 hE)), rfl⟩

set_option maxHeartbeats 1000000 in
set_option maxRecDepth 100000 in
theorem caps_any (l : List UInt8) (w : World) (hl : l.length ≤ 1000000000) : Calls Tryz.prog 168 #[.string ⟨l.toArray⟩] w fun e w' => e = .returned (.bool (capsL l)) ∧ w = w' := by
  go_enter Tryz.func168, Tryz.ntmps168
  go_wp2
  go_loopw [6] (fun i wr => ∃ (k : Nat), k ≤ l.length ∧ i = .int .i64 k ∧ Hid ((l.take k).all isCap = true) ∧ wr = w) (fun i _ => l.length - (intOf i).toNat)
  case atStart => exact ⟨0, by omega, rfl, Lib.hid (by simp), rfl⟩
  case round =>
    obtain ⟨k, hk, rfl, HA, rfl⟩ := hrel
    by_cases hlt : k < l.length
    · have h0 : (k : Int) < l.length := by omega
      have HC := Lib.hid (fun w => digit_any l[k] w)
      rcases hD : isDigit l[k] with _ | _
      · rw [hD] at HC
        by_cases h1 : (l[k].toNat : Int) < 65
        · have h1' : ¬ (65 : Int) ≤ l[k].toNat := by omega
          have HF := Lib.hid (all_no (p := isCap) k hlt (by rw [isCap_int]; simp [hD, h1']))
          go_wp2_with (go_at_call 161; refine (HC.out _).mono ?_; rintro e w1 ⟨rfl, rfl⟩)
          go_ret
          exact ⟨ret_bool (by simp [capsL, HF.out]), rfl⟩
        · have h1' : (65 : Int) ≤ l[k].toNat := by omega
          by_cases h2 : (90 : Int) < l[k].toNat
          · have h2' : ¬ (l[k].toNat : Int) ≤ 90 := by omega
            have HF := Lib.hid (all_no (p := isCap) k hlt (by rw [isCap_int]; simp [hD, h1', h2']))
            go_wp2_with (go_at_call 161; refine (HC.out _).mono ?_; rintro e w1 ⟨rfl, rfl⟩)
            go_ret
            exact ⟨ret_bool (by simp [capsL, HF.out]), rfl⟩
          · have h2' : (l[k].toNat : Int) ≤ 90 := by omega
            have g1 : decide ((l[k].toNat : Int) < 65) = false := by simp; omega
            have g2 : decide ((90 : Int) < l[k].toNat) = false := by simp; omega
            have HT := Lib.hid (all_take k hlt HA.out (show isCap l[k] = true by rw [isCap_int]; simp [hD, h1', h2']))
            go_wp2_with (go_at_call 161; refine (HC.out _).mono ?_; rintro e w1 ⟨rfl, rfl⟩)
            exact ⟨⟨k + 1, by omega, by simp, HT, by first | rfl | trivial⟩, by simp [intOf]; omega⟩
      · rw [hD] at HC
        have HT := Lib.hid (all_take k hlt HA.out (show isCap l[k] = true by rw [isCap_int]; simp [hD]))
        go_wp2_with (go_at_call 161; refine (HC.out _).mono ?_; rintro e w1 ⟨rfl, rfl⟩)
        exact ⟨⟨k + 1, by omega, by simp, HT, by first | rfl | trivial⟩, by simp [intOf]; omega⟩
    · have h0 : ¬ (k : Int) < l.length := by omega
      have ht := HA.out
      rw [List.take_of_length_le (by omega)] at ht
      have HT := Lib.hid ht
      clear ht
      have HZ : capsL l = !l.isEmpty := by simp [capsL, HT.out]
      rcases hE : l.isEmpty with _ | _
      · have hp : (0 : Int) < l.length := by cases l <;> simp at hE ⊢ <;> omega
        go_wp2
        go_ret
        exact ⟨ret_bool (by first | rfl | (simp; done) | (simp; omega) | (simp; exact List.isEmpty_iff.1 hE)), rfl⟩
      · have hp : ¬ (0 : Int) < l.length := by cases l <;> simp at hE ⊢
        go_wp2
        go_ret
        exact ⟨ret_bool (by first | rfl | (simp; done) | (simp; omega) | (simp; exact List.isEmpty_iff.1 hE)), rfl⟩

theorem below_drewN {B : Nat} {w w' : World} (h : Below B w w') (n : Nat) : Below B w (w'.drewN n) := ⟨h.os, h.tape, h.output, h.size, h.block⟩
theorem like_no (s f : List UInt8) (k : Nat) (h1 : k < s.length) (h2 : k < f.length) (h : likeB s[k] f[k] = false) : likeL s f = false := by
  unfold likeL
  rw [Bool.and_eq_false_iff]
  right
  rw [List.all_eq_false]
  refine ⟨(s[k], f[k]), ?_, by simp [h]⟩
  have : (s.zip f)[k]'(by simp; omega) = (s[k], f[k]) := List.getElem_zip
  rw [← this]
  exact List.getElem_mem _
theorem like_more (s f : List UInt8) (k : Nat) (h1 : k < s.length) (h2 : k < f.length) (hA : ∀ j (h1 : j < s.length) (h2 : j < f.length), j < k → likeB s[j] f[j] = true) (h : likeB s[k] f[k] = true) :
    ∀ j (h1 : j < s.length) (h2 : j < f.length), j < k + 1 → likeB s[j] f[j] = true := by
  intro j g1 g2 hj
  by_cases e : j < k
  · exact hA j g1 g2 e
  · obtain rfl : j = k := by omega
    exact h
theorem like_yes (s f : List UInt8) (hl : s.length = f.length) (h : ∀ j (h1 : j < s.length) (h2 : j < f.length), likeB s[j] f[j] = true) : likeL s f = true := by
  unfold likeL
  rw [Bool.and_eq_true]
  refine ⟨by simp [hl], ?_⟩
  rw [List.all_eq_true]
  intro p hp
  obtain ⟨k, hk, rfl⟩ := List.getElem_of_mem hp
  have : (s.zip f)[k] = (s[k]'(by simp at hk; omega), f[k]'(by simp at hk; omega)) := List.getElem_zip
  rw [this]
  exact h k _ _

set_option maxHeartbeats 1000000 in
set_option maxRecDepth 100000 in
theorem like_any (s f : List UInt8) (w : World) (hs : s.length ≤ 1000000000) (hf : f.length ≤ 1000000000) : Calls Tryz.prog 84 #[.string ⟨s.toArray⟩, .string ⟨f.toArray⟩] w fun e w' => e = .returned (.bool (likeL s f)) ∧ Below w.heap.size w w' := by
  by_cases hne : s.length = f.length
  · have h9 : ((s.length : Int) != f.length) = false := by simp; omega
    go_enter Tryz.func84, Tryz.ntmps84
    go_wp2
    go_loopw [13] (fun i wr => ∃ (k : Nat), k ≤ f.length ∧ i = .int .i64 k ∧ Hid (∀ j (h1 : j < s.length) (h2 : j < f.length), j < k → likeB s[j] f[j] = true) ∧ Hid (Below w.heap.size w wr)) (fun i _ => f.length - (intOf i).toNat)
    case atStart => exact ⟨0, by omega, rfl, Lib.hid (fun j _ _ h => absurd h (by omega)), Lib.hid (Below.refl _ _)⟩
    case round =>
      obtain ⟨k, hk, rfl, HA, HB⟩ := hrel
      by_cases hlt : k < f.length
      · have hks : k < s.length := by omega
        have h0 : (k : Int) < f.length := by omega
        have h1 : (k : Int) < s.length := by omega
        have HC := Lib.hid (fun w => digit_any s[k] w)
        have HN := Lib.hid (fun (h : likeB s[k] f[k] = false) => like_no s f k hks hlt h)
        have HY := Lib.hid (like_more s f k hks hlt HA.out)
        rcases hA : ((f[k].toNat : Int) == 48) with _ | _
        · have hb : likeB s[k] f[k] = (s[k] == f[k]) := by unfold likeB; rw [if_neg]; intro e; rw [e] at hA; simp at hA
          rcases hB : ((s[k].toNat : Int) != f[k].toNat) with _ | _
          · have he : likeB s[k] f[k] = true := by rw [hb, beq_iff_eq, u8_eq]; simp at hB; omega
            have hB' : ((f[k].toNat : Int) != s[k].toNat) = false := by simp at hB ⊢; omega
            go_wp2
            go_quiet (fail)
            go_wp2
            exact ⟨⟨k + 1, by omega, by simp, Lib.hid (HY.out he), Lib.hid (below_drewN HB.out _)⟩, by simp [intOf]; omega⟩
          · have he : likeB s[k] f[k] = false := by rw [hb, beq_eq_false_iff_ne, ne_eq, u8_eq]; simp at hB; omega
            have hB' : ((f[k].toNat : Int) != s[k].toNat) = true := by simp at hB ⊢; omega
            go_wp2
            go_quiet (fail)
            go_wp2
            go_ret
            exact ⟨ret_bool (HN.out he).symm, below_drewN HB.out _⟩
        · have hb : likeB s[k] f[k] = isDigit s[k] := by unfold likeB; rw [if_pos]; exact (u8_lit _ 48 (by decide)).2 (by simpa using hA)
          rcases hP : isDigit s[k] with _ | _
          · rw [hP] at HC
            have he := hb.trans hP
            go_wp2_with (go_at_call 161; refine (HC.out _).mono ?_; rintro e w1 ⟨rfl, rfl⟩)
            go_ret
            exact ⟨ret_bool (HN.out he).symm, HB.out⟩
          · rw [hP] at HC
            have he := hb.trans hP
            go_wp2_with (go_at_call 161; refine (HC.out _).mono ?_; rintro e w1 ⟨rfl, rfl⟩)
            exact ⟨⟨k + 1, by omega, by simp, Lib.hid (HY.out he), HB⟩, by simp [intOf]; omega⟩
      · have h0 : ¬ (k : Int) < f.length := by omega
        have h1 : ¬ (k : Int) < s.length := by omega
        have hy := like_yes s f hne (fun j h1 h2 => HA.out j h1 h2 (by omega))
        have HY := Lib.hid hy
        clear hy
        go_wp2
        go_ret
        exact ⟨ret_bool HY.out.symm, HB.out⟩
  · have h9 : ((s.length : Int) != f.length) = true := by simp; omega
    have hF : likeL s f = false := by simp [likeL, hne]
    rw [hF]
    go_enter Tryz.func84, Tryz.ntmps84
    go_wp2
    go_ret
    exact ⟨rfl, Below.refl _ _⟩

end Go.Proofs.YtndpcphmndfajaaGreatDoor

namespace Go.Proofs.YtndpcphmndfajaaGreatDoor
open Go.RowKit
set_option linter.unusedVariables false

structure Pc where
  m : Bool
  n : List UInt8
  t : List UInt8
def pcR (p : Pc) : List Value := [.bool p.m, .string ⟨p.n.toArray⟩, .string ⟨p.t.toArray⟩]
def pcV (p : Pc) : Value := .agg #[.bool p.m, .string ⟨p.n.toArray⟩, .string ⟨p.t.toArray⟩]
def markL (t : List UInt8) : Pc := ⟨true, [109, 97, 114, 107], t⟩

set_option maxRecDepth 100000 in
theorem mark_any (a : Option Addr) (n cap : Nat) (ps : List (List UInt8)) (w : World) (h : StrsAt w a n ps) (hcap : n ≤ cap) (hn : n ≤ 1000000000) (hs : ps.flatten.length ≤ 1000000000) :
    Calls Tryz.prog 163 #[.slice a n cap] w fun e w' => e = .returned (pcV (markL ps.flatten)) ∧ Below w.heap.size w w' := by
  have h2 := fun o => octJoin_any a n cap ps (w.alloc o) (h.below ((Below.refl _ _).alloc (Nat.le_refl _) o)) hcap hn hs
  have H := Lib.hid h2
  clear h h2
  go_enter Tryz.func163, Tryz.ntmps163
  go_wp2_with (go_at_call 60; refine (H.out _).mono ?_; rintro e w1 ⟨rfl, hb1⟩; have hh := block_below (at_a0 w _ _) hb1; have c0 := cell_at (j := 0) hh; have c1 := cell_at (j := 1) hh; have c2 := cell_at (j := 2) hh; have f0 := free_at (j := 0) hh; have f1 := free_at (j := 1) hh; have f2 := free_at (j := 2) hh)
  exact end_cell rfl rfl rfl (store3 hh rfl) Tryz.underlying135 rfl (by kernel_rfl) ⟨rfl, (((below_a1 hb1).setCell (Nat.le_refl _) _).setCell (Nat.le_refl _) _).setCell (Nat.le_refl _) _⟩
set_option maxRecDepth 100000 in
theorem text_any (n t : List UInt8) (w : World) :
    Calls Tryz.prog 165 #[.string ⟨n.toArray⟩, .string ⟨t.toArray⟩] w fun e w' => e = .returned (pcV ⟨false, n, t⟩) ∧ Below w.heap.size w w' := by
  go_enter Tryz.func165, Tryz.ntmps165
  go_wp2
  exact end_cell rfl rfl rfl (at_a0 _ _ _) Tryz.underlying135 rfl (by kernel_rfl) ⟨rfl, (Below.refl _ _).alloc (Nat.le_refl _) _⟩

def strC (ps : List (List UInt8)) : List Value := ps.map fun p => .string ⟨p.toArray⟩
/-- a slice of n texts that the call itself made, of which the first are written -/
def Made (w : World) (base g n : Nat) (ps : List (List UInt8)) : Prop := ps.length ≤ n ∧ w.ownsRow base 9 1 (.slice (some ⟨g, 0, none⟩) n n) n (strC (ps ++ List.replicate (n - ps.length) []))
theorem Made.cell {w : World} {base g n : Nat} {ps : List (List UInt8)} (h : Made w base g n ps) (hk : ps.length < n) : (∃ u, w.cell? ⟨g, ps.length, none⟩ = some u) ∧ w.frozen? ⟨g, ps.length, none⟩ = false := by
  refine ⟨?_, World.ownsRow.frozenAt h.2 _⟩
  rw [World.ownsRow.cellAt h.2 _ (by omega)]
  refine ⟨_, List.getElem?_eq_getElem (by simp [strC]; omega)⟩
theorem Made.step {w : World} {base g n : Nat} {ps : List (List UInt8)} (h : Made w base g n ps) (hk : ps.length < n) (p : List UInt8) : Made (w.setCell ⟨g, ps.length, none⟩ (.string ⟨p.toArray⟩)) base g n (ps ++ [p]) := by
  refine ⟨by simp; omega, ?_⟩
  have h1 := (World.ownsRow.stored h.2 ps.length (.string ⟨p.toArray⟩)).1
  have e : (strC (ps ++ List.replicate (n - ps.length) [])).set ps.length (.string ⟨p.toArray⟩) = strC (ps ++ [p] ++ List.replicate (n - (ps ++ [p]).length) []) := by
    have e2 : n - ps.length = (n - (ps ++ [p]).length) + 1 := by simp; omega
    rw [e2, List.replicate_succ]
    simp [strC]
  rw [e] at h1
  exact h1
theorem Made.done {w : World} {base g n : Nat} {ps : List (List UInt8)} (h : Made w base g n ps) (hk : ps.length = n) (hg : g < w.heap.size) : StrsAt w (some ⟨g, 0, none⟩) n ps := by
  refine ⟨hk, .inr ⟨g, 0, rfl, hg, fun i hi => ?_⟩⟩
  have e : n - ps.length = 0 := by omega
  have h2 := h.2
  rw [e, List.replicate_zero, List.append_nil] at h2
  rw [Nat.zero_add, World.ownsRow.cellAt h2 _ (by omega)]
  simp [strC, hi]
theorem Made.kept {w : World} {base g n : Nat} {ps : List (List UInt8)} (h : Made w base g n ps) (o : Obj) : Made (w.alloc o) base g n ps := ⟨h.1, World.ownsRow.alloc h.2 o⟩
theorem Made.lt {w : World} {base g n : Nat} {ps : List (List UInt8)} (h : Made w base g n ps) : base ≤ g ∧ g < w.heap.size := World.ownsRow.lt h.2 g rfl
theorem info_str' : (Tryz.prog.info? 9).map (fun i => (i.zero, i.size, i.bytes)) = some (some (.string ⟨#[]⟩), 1, 16) := by kernel_rfl

/-- pieces in cells -/
def PcsAt (w : World) (a : Option Addr) (n : Nat) (L : List Pc) : Prop := RecsAt w a n 3 (L.map pcR)
theorem PcsAt.len {w : World} {a : Option Addr} {n : Nat} {L : List Pc} (h : PcsAt w a n L) : L.length = n := by have := h.1; simpa using this
theorem PcsAt.at {w : World} {a : Option Addr} {n : Nat} {L : List Pc} (h : PcsAt w a n L) (hn : n ≠ 0) : ∃ b off, a = some ⟨b, off, none⟩ ∧ b < w.heap.size ∧ ∀ i (h : i < L.length), w.cell? ⟨b, off + i * 3, none⟩ = some (.bool L[i].m) ∧ w.cell? ⟨b, off + i * 3 + 1, none⟩ = some (.string ⟨L[i].n.toArray⟩) ∧ w.cell? ⟨b, off + i * 3 + 2, none⟩ = some (.string ⟨L[i].t.toArray⟩) := by
  rcases h.2.2 with h0 | ⟨b, off, ha, hb, hc⟩
  · exact absurd h0 hn
  · refine ⟨b, off, ha, hb, fun i hi => ?_⟩
    have hi' : i < (L.map pcR).length := by simpa using hi
    have e : (L.map pcR)[i] = pcR L[i] := by simp
    have k0 := hc i hi' 0 (by decide)
    have k1 := hc i hi' 1 (by decide)
    have k2 := hc i hi' 2 (by decide)
    rw [e] at k0 k1 k2
    exact ⟨k0, k1, k2⟩

set_option maxHeartbeats 2000000 in
set_option maxRecDepth 100000 in
theorem whole_in (b off n cap : Nat) (L : List Pc) (w : World) (hb : b < w.heap.size) (hl : L.length = n) (hn9 : n ≤ 1000000) (hcap : n ≤ cap) (hs : (L.map (·.t)).flatten.length ≤ 1000000000)
    (hc : Hid (∀ i (h : i < L.length), w.cell? ⟨b, off + i * 3, none⟩ = some (.bool L[i].m) ∧ w.cell? ⟨b, off + i * 3 + 1, none⟩ = some (.string ⟨L[i].n.toArray⟩) ∧ w.cell? ⟨b, off + i * 3 + 2, none⟩ = some (.string ⟨L[i].t.toArray⟩))) :
    Calls Tryz.prog 66 #[.slice (some ⟨b, off, none⟩) n cap] w fun e w' => e = .returned (.string ⟨(L.map (·.t)).flatten.toArray⟩) ∧ Below w.heap.size w w' := by
  obtain ⟨i0, hi, hz0, hz1, hz2⟩ := info_parts info_str'
  go_enter Tryz.func66, Tryz.ntmps66
  go_wp2_with (at_make; refine wpList_make_full _ rfl _ _ 100 rfl w.heap.size 9 i0 (.string ⟨#[]⟩) 1 Tryz.underlying100 hi hz0 hz1 _ _ _ _ n rfl rfl rfl rfl (by rw [hz2]; omega) (by unfold maxLen; omega) (Nat.le_refl _) ?_)
  intro w1 hown hgrow
  have hmade : Made w1 w.heap.size w.heap.size n [] := by
    refine ⟨Nat.zero_le _, ?_⟩
    have e : strC ([] ++ List.replicate (n - ([] : List (List UInt8)).length) []) = (madeCells #[Value.string ⟨#[]⟩] n).toList :=
      ((toList_madeCells_one (.string ⟨#[]⟩) n).trans (by simp [strC])).symm
    rw [e]
    exact hown
  have hbel : Below w.heap.size w w1 := (Below.refl _ _).grown hgrow (Nat.le_refl _) (by intro k hk; cases hk)
  have HMD := Lib.hid hmade
  have HBL := Lib.hid hbel
  clear hown hgrow hmade hbel
  go_wp2
  go_loopw [11] (fun i wr => ∃ (k : Nat), k ≤ n ∧ i = .int .i64 k ∧ Hid (Made wr w.heap.size w.heap.size n ((L.take k).map (·.t))) ∧ Hid (Below w.heap.size w wr)) (fun i _ => n - (intOf i).toNat)
  case atStart => exact ⟨0, by omega, rfl, HMD, HBL⟩
  case round =>
    obtain ⟨k, hk, rfl, HM, HB⟩ := hrel
    by_cases hlt : k < n
    · have h0 : (k : Int) < n := by omega
      have hkl : k < L.length := by omega
      obtain ⟨c0, c1, c2⟩ := hc.out k hkl
      rw [← HB.out.cell (by exact hb)] at c0 c1 c2
      have hlen : ((L.take k).map (·.t)).length = k := by simp; omega
      have hmo := HM.out.cell (by rw [hlen]; exact hlt)
      have hms := HM.out.step (by rw [hlen]; exact hlt) L[k].t
      rw [hlen] at hmo hms
      have HMS := Lib.hid hms
      have hme : (L.take (k + 1)).map (·.t) = (L.take k).map (·.t) ++ [L[k].t] := by rw [List.take_succ_eq_append_getElem hkl, List.map_append]; rfl
      have HME := Lib.hid hme
      obtain ⟨⟨u, hu⟩, hf⟩ := hmo
      have hgl := HM.out.lt.2
      clear hms hme hlen
      go_wp2
      refine ⟨⟨k + 1, by omega, by simp, ?_, Lib.hid ?_⟩, by simp [intOf]; omega⟩
      · rw [HME.out]; exact HMS.out.kept _
      · exact (HB.out.setCell (Nat.le_refl _) _).alloc (by simpa using HB.out.size) _
    · have h0 : ¬ (k : Int) < n := by omega
      have e0 : L.take k = L := List.take_of_length_le (by omega)
      rw [e0] at HM
      have hS := HM.out.done (by simpa using hl) HM.out.lt.2
      have C1 := Lib.hid (octJoin_any (some ⟨w.heap.size, 0, none⟩) n n _ wr hS (Nat.le_refl _) (by omega) hs)
      clear hS
      go_wp2_with (go_at_call 60; refine C1.out.mono ?_; rintro e w2 ⟨rfl, hb2⟩)
      go_ret
      exact ⟨rfl, nextB HB.out hb2⟩

set_option maxHeartbeats 1000000 in
set_option maxRecDepth 100000 in
theorem whole_none (a : Option Addr) (cap : Nat) (w : World) :
    Calls Tryz.prog 66 #[.slice a 0 cap] w fun e w' => e = .returned (.string ⟨#[]⟩) ∧ Below w.heap.size w w' := by
  obtain ⟨i0, hi, hz0, hz1, hz2⟩ := info_parts info_str'
  go_enter Tryz.func66, Tryz.ntmps66
  go_wp2_with (at_make; refine wpList_make_full _ rfl _ _ 100 rfl w.heap.size 9 i0 (.string ⟨#[]⟩) 1 Tryz.underlying100 hi hz0 hz1 _ _ _ _ 0 rfl rfl rfl rfl (by rw [hz2]; omega) (by unfold maxLen; omega) (Nat.le_refl _) ?_)
  intro w1 hown hgrow
  have hbel : Below w.heap.size w w1 := (Below.refl _ _).grown hgrow (Nat.le_refl _) (by intro k hk; cases hk)
  have HBL := Lib.hid hbel
  clear hown hgrow hbel
  go_wp2
  refine wp_loop_rounds 1 ?_
  rw [rounds_succ]
  have C1 := Lib.hid (fun w a c => octJoin_any a 0 c [] w ⟨rfl, .inl rfl⟩ (Nat.zero_le _) (by decide) (by decide))
  go_wp2_with (go_at_call 60; refine (C1.out _ _ _).mono ?_; rintro e w2 ⟨rfl, hb2⟩)
  go_ret
  exact ⟨rfl, nextB HBL.out hb2⟩

theorem whole_any (a : Option Addr) (n cap : Nat) (L : List Pc) (w : World) (h : PcsAt w a n L) (hn9 : n ≤ 1000000) (hcap : n ≤ cap) (hs : (L.map (·.t)).flatten.length ≤ 1000000000) :
    Calls Tryz.prog 66 #[.slice a n cap] w fun e w' => e = .returned (.string ⟨(L.map (·.t)).flatten.toArray⟩) ∧ Below w.heap.size w w' := by
  by_cases hn : n = 0
  · subst hn
    obtain rfl : L = [] := List.eq_nil_of_length_eq_zero h.len
    exact whole_none a cap w
  · obtain ⟨b, off, rfl, hb, hc⟩ := h.at hn
    exact whole_in b off n cap L w hb h.len hn9 hcap hs (Lib.hid hc)

/-- the lines of the example, in cells -/
theorem ex_lines : linesOf [97, 13, 10, 10, 98] 0 = [⟨[97], [13, 10], 0⟩, ⟨[], [10], 3⟩, ⟨[98], [], 4⟩] := by kernel_rfl
end Go.Proofs.YtndpcphmndfajaaGreatDoor

namespace Go.Proofs.YtndpcphmndfajaaGreatDoor
open Go.RowKit
set_option linter.unusedVariables false

def ExAt (w : World) (g : Nat) : Prop := g < w.heap.size ∧ w.cell? ⟨g, 0, none⟩ = some (.string ⟨#[97]⟩) ∧ w.cell? ⟨g, 1, none⟩ = some (.string ⟨#[13, 10]⟩) ∧ w.cell? ⟨g, 2, none⟩ = some (.int .i64 0) ∧
  w.cell? ⟨g, 3, none⟩ = some (.string ⟨#[]⟩) ∧ w.cell? ⟨g, 4, none⟩ = some (.string ⟨#[10]⟩) ∧ w.cell? ⟨g, 5, none⟩ = some (.int .i64 3) ∧
  w.cell? ⟨g, 6, none⟩ = some (.string ⟨#[98]⟩) ∧ w.cell? ⟨g, 7, none⟩ = some (.string ⟨#[]⟩) ∧ w.cell? ⟨g, 8, none⟩ = some (.int .i64 4)
theorem ExAt.below {w w' : World} {g : Nat} (h : ExAt w g) (hb : Below w.heap.size w w') : ExAt w' g := by
  obtain ⟨h0, c0, c1, c2, c3, c4, c5, c6, c7, c8⟩ := h
  have hc := (bcell hb).1
  exact ⟨Nat.lt_of_lt_of_le h0 hb.size, (hc _ _ h0).trans c0, (hc _ _ h0).trans c1, (hc _ _ h0).trans c2, (hc _ _ h0).trans c3, (hc _ _ h0).trans c4, (hc _ _ h0).trans c5, (hc _ _ h0).trans c6, (hc _ _ h0).trans c7, (hc _ _ h0).trans c8⟩
theorem ex_view {w : World} {base e : Nat} {v : Value} (h : Recs w base e 3 v ((linesOf [97, 13, 10, 10, 98] 0).map lnR)) : ∃ g cap, v = .slice (some ⟨g, 0, none⟩) 3 cap ∧ ExAt w g := by
  rw [ex_lines] at h
  obtain ⟨a, cap, hv, hc, hr⟩ := h.view
  rcases hr with h0 | ⟨g, rfl, hb, hg, hcell⟩
  · simp at h0
  · have k := fun i hi j hj => hcell i hi j hj
    exact ⟨g, cap, hv, hg, k 0 (by decide) 0 (by decide), k 0 (by decide) 1 (by decide), k 0 (by decide) 2 (by decide), k 1 (by decide) 0 (by decide), k 1 (by decide) 1 (by decide), k 1 (by decide) 2 (by decide), k 2 (by decide) 0 (by decide), k 2 (by decide) 1 (by decide), k 2 (by decide) 2 (by decide)⟩
theorem PcsAt.two (w : World) (p q : Pc) (T : TypeId) : PcsAt (w.alloc (.cells #[.bool p.m, .string ⟨p.n.toArray⟩, .string ⟨p.t.toArray⟩, .bool q.m, .string ⟨q.n.toArray⟩, .string ⟨q.t.toArray⟩] T)) (some ⟨w.heap.size, 0, none⟩) 2 [p, q] := by
  refine ⟨rfl, by simp [pcR], .inr ⟨_, _, rfl, by simp, ?_⟩⟩
  intro i h j hj
  match i, h, j, hj with
  | 0, _, 0, _ => exact cell_at (at_a0 _ _ _)
  | 0, _, 1, _ => exact cell_at (at_a0 _ _ _)
  | 0, _, 2, _ => exact cell_at (at_a0 _ _ _)
  | 1, _, 0, _ => exact cell_at (at_a0 _ _ _)
  | 1, _, 1, _ => exact cell_at (at_a0 _ _ _)
  | 1, _, 2, _ => exact cell_at (at_a0 _ _ _)

set_option maxHeartbeats 2000000 in
set_option maxRecDepth 100000 in
theorem awake22 (w : World) : Calls Tryz.prog 158 #[] w fun e w' => e = .returned (.bool true) ∧ Below w.heap.size w w' := by
  have C1 := Lib.hid (fun w => lines_any [97, 13, 10, 10, 98] w (by decide))
  have c2 := fun w => like_any [49, 58, 50, 51] [48, 58, 48, 48] w (by decide) (by decide)
  rw [show likeL [49, 58, 50, 51] [48, 58, 48, 48] = true by decide] at c2
  have C2 := Lib.hid c2
  have C3 : Hid (∀ w : World, Calls Tryz.prog 163 #[.slice (some ⟨w.heap.size, 0, none⟩) 2 2] (w.alloc (.cells #[.string ⟨#[97]⟩, .string ⟨#[98]⟩] 9)) fun e w' => e = .returned (.agg #[.bool true, .string ⟨#[109, 97, 114, 107]⟩, .string ⟨#[97, 98]⟩]) ∧ Below (w.alloc (.cells #[.string ⟨#[97]⟩, .string ⟨#[98]⟩] 9)).heap.size (w.alloc (.cells #[.string ⟨#[97]⟩, .string ⟨#[98]⟩] 9)) w') :=
    Lib.hid (fun w => mark_any (some ⟨w.heap.size, 0, none⟩) 2 2 [[97], [98]] _ (StrsAt.two w [97] [98] _) (by decide) (by decide) (by decide))
  have C4 : Hid (∀ w : World, Calls Tryz.prog 165 #[.string ⟨#[120]⟩, .string ⟨#[99]⟩] w fun e w' => e = .returned (.agg #[.bool false, .string ⟨#[120]⟩, .string ⟨#[99]⟩]) ∧ Below w.heap.size w w') := Lib.hid (fun w => text_any [120] [99] w)
  have C5 : Hid (∀ w : World, Calls Tryz.prog 66 #[.slice (some ⟨w.heap.size, 0, none⟩) 2 2] (w.alloc (.cells #[.bool true, .string ⟨#[109, 97, 114, 107]⟩, .string ⟨#[97, 98]⟩, .bool false, .string ⟨#[120]⟩, .string ⟨#[99]⟩] 135)) fun e w' => e = .returned (.string ⟨#[97, 98, 99]⟩) ∧ Below (w.alloc (.cells #[.bool true, .string ⟨#[109, 97, 114, 107]⟩, .string ⟨#[97, 98]⟩, .bool false, .string ⟨#[120]⟩, .string ⟨#[99]⟩] 135)).heap.size (w.alloc (.cells #[.bool true, .string ⟨#[109, 97, 114, 107]⟩, .string ⟨#[97, 98]⟩, .bool false, .string ⟨#[120]⟩, .string ⟨#[99]⟩] 135)) w') :=
    Lib.hid (fun w => whole_any (some ⟨w.heap.size, 0, none⟩) 2 2 [⟨true, [109, 97, 114, 107], [97, 98]⟩, ⟨false, [120], [99]⟩] _ (PcsAt.two w ⟨true, [109, 97, 114, 107], [97, 98]⟩ ⟨false, [120], [99]⟩ _) (by decide) (by decide) (by decide))
  clear c2
  go_enter Tryz.func158, Tryz.ntmps158
  go_wp2_with (first | (go_at_call 194; refine (C1.out _).mono ?_; rintro e w1 ⟨v, rfl, hr1, hb1⟩; obtain ⟨g, cap, rfl, hx1⟩ := ex_view hr1; clear hr1; have HX1 := Lib.hid hx1; clear hx1) | (go_at_call 151; refine (awake01 _).mono ?_; rintro e w2 ⟨rfl, hb2⟩; have HB2 := Lib.hid (nextB hb1 hb2); obtain ⟨hg, d0, d1, d2, d3, d4, d5, d6, d7, d8⟩ := HX1.out.below hb2; clear hb1 hb2) | (go_at_call 84; refine (C2.out _).mono ?_; rintro e w3 ⟨rfl, hb3⟩; have HB3 := Lib.hid (nextB HB2.out hb3); clear hb3) | (go_at_call 163; with_reducible refine (C3.out _).mono ?_; rintro e w4 ⟨rfl, hb4⟩; have HB4 := Lib.hid (nextB HB3.out (below_a1 hb4)); clear hb4) | (go_at_call 165; refine (C4.out _).mono ?_; rintro e w5 ⟨rfl, hb5⟩; have HB5 := Lib.hid (nextB HB4.out hb5); clear hb5) | (go_at_call 66; with_reducible refine (C5.out _).mono ?_; rintro e w6 ⟨rfl, hb6⟩; have HB6 := Lib.hid (nextB HB5.out (below_a1 hb6)); clear hb6))
  go_ret
  exact ⟨rfl, HB6.out⟩
end Go.Proofs.YtndpcphmndfajaaGreatDoor
