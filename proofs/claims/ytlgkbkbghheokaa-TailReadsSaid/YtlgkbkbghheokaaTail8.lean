/- Layer 12 (tail): what is printed is read as it was (plain); equal tails. -/
import Derived.Test.YtlgkbkbghheokaaTail7
import Derived.Laws.StructEq
namespace Go.Proofs.Ytlgkbkbghheokaa
open Go.RowKit
set_option linter.unusedVariables false

theorem cut0_pad : ∀ (s : List UInt8) (n : Nat), s.contains 0 = false → cut0 (s ++ List.replicate n 0) = s
  | [], n, _ => by
    cases n with
    | zero => rfl
    | succ n => simp [cut0, List.replicate_succ]
  | c :: s, n, h => by
    simp only [List.contains_cons, Bool.or_eq_false_iff] at h
    have hc : ¬ c = 0 := by
      intro e
      subst e
      simp at h
    rw [List.cons_append, cut0_cons, if_neg hc, cut0_pad s n h.2]
theorem pad_len (s : List UInt8) (r : Nat) (h : s.length ≤ r) : (s ++ List.replicate (r - s.length) (0 : UInt8)).length = r := by
  rw [List.length_append, List.length_replicate]; omega
theorem drop_at (l a b : List UInt8) (k n : Nat) (h : l.drop k = a ++ b) (ha : a.length = n) : l.drop (k + n) = b ∧ (l.drop k).take n = a := by
  subst ha
  rw [← List.drop_drop, h]
  simp
theorem getD_drop (l : List UInt8) (k n : Nat) : l.getD (k + n) 0 = (l.drop k).getD n 0 := by
  simp [List.getD_eq_getElem?_getD, List.getElem?_drop]
theorem getD_left (a b : List UInt8) (n : Nat) (h : n < a.length) : (a ++ b).getD n 0 = a.getD n 0 := by
  simp [List.getD_eq_getElem?_getD, List.getElem?_append_left h]
theorem getD_right (a b : List UInt8) (n : Nat) : (a ++ b).getD (a.length + n) 0 = b.getD n 0 := by
  rw [List.getD_eq_getElem?_getD, List.getD_eq_getElem?_getD, List.getElem?_append_right (by omega), Nat.add_sub_cancel_left]
theorem pad_spec (s : List UInt8) (r k : Nat) (hs : s.contains 0 = false) (hr : s.length ≤ r) (hk : k + 1 < r) (h : (s ++ List.replicate (r - s.length) (0 : UInt8)).getD k 0 = 0) : (s ++ List.replicate (r - s.length) (0 : UInt8)).getD (k + 1) 0 = 0 := by
  have hle : s.length ≤ k := by
    apply Nat.le_of_not_lt
    intro hlt
    rw [getD_left _ _ _ hlt] at h
    have : s.getD k 0 = s[k] := by simp [List.getD_eq_getElem?_getD, hlt]
    rw [this] at h
    have hm : s.contains 0 = true := by
      rw [List.contains_iff_mem, ← h]
      exact List.getElem_mem hlt
    rw [hs] at hm
    cases hm
  have : k + 1 = s.length + (k + 1 - s.length) := by omega
  rw [this, getD_right]
  rw [List.getD_eq_getElem?_getD, List.getElem?_replicate]
  split <;> rfl
theorem tail_back (t : Tl) (h : Fits t) : parseT (printT t) = t ∧ ParseIs (printT t) = true := by
  have h0 := h (t.t0, 30) (by simp [pairs])
  have h1 := h (t.t1, 30) (by simp [pairs])
  have h2 := h (t.t2, 30) (by simp [pairs])
  have h3 := h (t.t3, 4) (by simp [pairs])
  have h4 := h (t.t4, last4 t.tr) (by simp [pairs])
  simp only at h0 h1 h2 h3 h4
  have hlen := printT_len t (fun x hx => (h x hx).2)
  have e : printT t = [84, 65, 71] ++ ((t.t0 ++ List.replicate (30 - t.t0.length) 0) ++ ((t.t1 ++ List.replicate (30 - t.t1.length) 0) ++ ((t.t2 ++ List.replicate (30 - t.t2.length) 0) ++ ((t.t3 ++ List.replicate (4 - t.t3.length) 0) ++ ((t.t4 ++ List.replicate (last4 t.tr - t.t4.length) 0) ++ ((if t.tr = 0 then [] else [0, t.tr]) ++ [t.ge])))))) := by
    rw [printT_acc]
    unfold accT
    have e0 : (pairs t).take 5 = pairs t := rfl
    rw [e0]
    unfold pairs fills
    by_cases ht : t.tr = 0 <;> simp [ht]
  have d3 : (printT t).drop 3 = ((t.t0 ++ List.replicate (30 - t.t0.length) 0) ++ ((t.t1 ++ List.replicate (30 - t.t1.length) 0) ++ ((t.t2 ++ List.replicate (30 - t.t2.length) 0) ++ ((t.t3 ++ List.replicate (4 - t.t3.length) 0) ++ ((t.t4 ++ List.replicate (last4 t.tr - t.t4.length) 0) ++ ((if t.tr = 0 then [] else [0, t.tr]) ++ [t.ge])))))) := by rw [e]; rfl
  have a0 := drop_at _ _ _ 3 30 d3 (pad_len _ _ h0.2)
  have a1 := drop_at _ _ _ 33 30 a0.1 (pad_len _ _ h1.2)
  have a2 := drop_at _ _ _ 63 30 a1.1 (pad_len _ _ h2.2)
  have a3 := drop_at _ _ _ 93 4 a2.1 (pad_len _ _ h3.2)
  have c0 := cut0_pad t.t0 (30 - t.t0.length) h0.1
  have c1 := cut0_pad t.t1 (30 - t.t1.length) h1.1
  have c2 := cut0_pad t.t2 (30 - t.t2.length) h2.1
  have c3 := cut0_pad t.t3 (4 - t.t3.length) h3.1
  have c4 := cut0_pad t.t4 (last4 t.tr - t.t4.length) h4.1
  have hd97 := a3.1
  refine ⟨?_, ?_⟩
  · unfold parseT
    rw [a0.2, a1.2, a2.2, a3.2, c0, c1, c2, c3]
    rw [show (125 : Nat) = 97 + 28 from rfl, show (126 : Nat) = 97 + 29 from rfl, show (127 : Nat) = 97 + 30 from rfl, getD_drop _ 97 28, getD_drop _ 97 29, getD_drop _ 97 30]
    simp only [show 93 + 4 = 97 from rfl] at hd97
    by_cases ht : t.tr = 0
    · have e4 : last4 t.tr = 30 := by unfold last4; rw [if_pos ht]
      rw [e4] at h4 hd97 c4
      rw [if_pos ht, List.nil_append] at hd97
      have hp := pad_len t.t4 30 h4.2
      have hnot : ¬ (((printT t).drop 97).getD 28 0 = 0 ∧ ((printT t).drop 97).getD 29 0 ≠ 0) := by
        rw [hd97, getD_left _ _ 28 (by rw [hp]; decide), getD_left _ _ 29 (by rw [hp]; decide)]
        intro hh
        exact hh.2 (pad_spec t.t4 30 28 h4.1 h4.2 (by decide) hh.1)
      rw [if_neg hnot, hd97]
      have g : ((t.t4 ++ List.replicate (30 - t.t4.length) 0) ++ [t.ge]).getD 30 0 = t.ge := by
        have := getD_right (t.t4 ++ List.replicate (30 - t.t4.length) 0) [t.ge] 0
        rw [hp] at this
        exact this
      have tk : ((t.t4 ++ List.replicate (30 - t.t4.length) 0) ++ [t.ge]).take 30 = t.t4 ++ List.replicate (30 - t.t4.length) 0 := by
        rw [List.take_left' hp]
      rw [g, tk, c4, ← ht]
    · have e4 : last4 t.tr = 28 := by unfold last4; rw [if_neg ht]
      rw [e4] at h4 hd97 c4
      rw [if_neg ht] at hd97
      have hp := pad_len t.t4 28 h4.2
      have g28 : ((printT t).drop 97).getD 28 0 = 0 := by
        rw [hd97]
        have := getD_right (t.t4 ++ List.replicate (28 - t.t4.length) 0) ([0, t.tr] ++ [t.ge]) 0
        rw [hp] at this
        exact this
      have g29 : ((printT t).drop 97).getD 29 0 = t.tr := by
        rw [hd97]
        have := getD_right (t.t4 ++ List.replicate (28 - t.t4.length) 0) ([0, t.tr] ++ [t.ge]) 1
        rw [hp] at this
        exact this
      have g30 : ((printT t).drop 97).getD 30 0 = t.ge := by
        rw [hd97]
        have := getD_right (t.t4 ++ List.replicate (28 - t.t4.length) 0) ([0, t.tr] ++ [t.ge]) 2
        rw [hp] at this
        exact this
      rw [g28, g29, g30, if_pos ⟨rfl, ht⟩, hd97]
      have tk : ((t.t4 ++ List.replicate (28 - t.t4.length) 0) ++ ([0, t.tr] ++ [t.ge])).take 30 = (t.t4 ++ List.replicate (28 - t.t4.length) 0) ++ [0, t.tr] := by
        rw [← List.append_assoc, List.take_left' (by rw [List.length_append, hp]; rfl)]
      rw [tk, List.take_left' hp, c4]
  · unfold ParseIs
    rw [hlen, e]
    simp
def tlEq (p q : Tl) : Bool := p.t0 == q.t0 && (p.t1 == q.t1 && (p.t2 == q.t2 && (p.t3 == q.t3 && (p.t4 == q.t4 && (p.tr == q.tr && p.ge == q.ge)))))
set_option maxHeartbeats 1000000 in
set_option maxRecDepth 100000 in
theorem run_eql_tail (p : Tl) (w : World) : (binOp .eql 25 (tlV p) (tlV p)).run Try.prog w = .ok (.bool true) w := by
  unfold tlV tlR
  go_simp
set_option maxHeartbeats 1000000 in
set_option maxRecDepth 100000 in
theorem run_neq_tail (p : Tl) (w : World) : (binOp .neq 25 (tlV p) (tlV p)).run Try.prog w = .ok (.bool false) w := by
  unfold tlV tlR
  go_simp
theorem eq_arr5 (d : Nat) (a0 a1 a2 a3 a4 : ByteArray) (w : World) (he : ∀ a w, (Op.equalIn d 9 (.string a) (.string a)).run Try.prog w = .ok true w) : (Op.equalIn (d + 1) 26 (.agg #[.string a0, .string a1, .string a2, .string a3, .string a4]) (.agg #[.string a0, .string a1, .string a2, .string a3, .string a4])).run Try.prog w = .ok true w := by
  have hn : (sizeOf 9).run Try.prog w = .ok 1 w := by kernel_rfl
  simp only [Op.equalIn, Sem.run_bind, run_underlying Try.underlying26, Result.andThen_ok, hn, Std.Legacy.Range.forIn_eq_forIn_range']
  have p0 : ∀ w, (part 9 #[.string a0, .string a1, .string a2, .string a3, .string a4] 0).run Try.prog w = .ok (.string a0) w := fun _ => by kernel_rfl
  have p1 : ∀ w, (part 9 #[.string a0, .string a1, .string a2, .string a3, .string a4] 1).run Try.prog w = .ok (.string a1) w := fun _ => by kernel_rfl
  have p2 : ∀ w, (part 9 #[.string a0, .string a1, .string a2, .string a3, .string a4] 2).run Try.prog w = .ok (.string a2) w := fun _ => by kernel_rfl
  have p3 : ∀ w, (part 9 #[.string a0, .string a1, .string a2, .string a3, .string a4] 3).run Try.prog w = .ok (.string a3) w := fun _ => by kernel_rfl
  have p4 : ∀ w, (part 9 #[.string a0, .string a1, .string a2, .string a3, .string a4] 4).run Try.prog w = .ok (.string a4) w := fun _ => by kernel_rfl
  simp [List.range', he, p0, p1, p2, p3, p4, Result.andThen]
theorem run_neq_rtail (p : Tl) (w : World) : (binOp .neq 28 (rtV p) (rtV p)).run Try.prog w = .ok (.bool false) w := by
  have he : ∀ d a w, (Op.equalIn (d + 1) 9 (.string a) (.string a)).run Try.prog w = .ok true w := fun d a w => by
    rw [run_equalIn_string w d 9 a a Try.underlying9]
    simp
  have ha := fun w => eq_arr5 9998 ⟨p.t0.toArray⟩ ⟨p.t1.toArray⟩ ⟨p.t2.toArray⟩ ⟨p.t3.toArray⟩ ⟨p.t4.toArray⟩ w (fun a w => he 9997 a w)
  unfold rtV rtR
  go_simp
end Go.Proofs.Ytlgkbkbghheokaa
