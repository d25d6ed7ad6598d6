/- A reader that stands at a known text: what its steps come to (plain, no program). -/
import Derived.Test.YtdoheningeafhaaOct4
namespace Go.Proofs.Ytdoheningeafhaa
open Go.RowKit
set_option linter.unusedVariables false

/-- the reader m has nothing wrong and r ahead of it -/
def Run (m : Rd) (r : List UInt8) : Prop := m.cd = 0 ∧ m.nx ≤ m.t.length ∧ m.t.drop m.nx = r
/-- the reader m', on the text and the base of m, found the text's end too early -/
def Fell (m m' : Rd) : Prop := m'.cd = 1 ∧ m'.pl = m.bs + m.t.length ∧ m'.t = m.t ∧ m'.bs = m.bs
/-- m' is m, so many bytes on -/
def adv (m : Rd) (k : Nat) : Rd := { m with nx := m.nx + k }
theorem adv_adv (m : Rd) (j k : Nat) : adv (adv m j) k = adv m (j + k) := by simp [adv, Nat.add_assoc]
theorem adv_zero (m : Rd) : adv m 0 = m := rfl
theorem Run.new (t : List UInt8) (b : Int) : Run (Rd.new t b) t := ⟨rfl, Nat.zero_le _, rfl⟩
theorem Run.len {m : Rd} {r : List UInt8} (h : Run m r) : m.nx + r.length = m.t.length := by
  rw [← h.2.2, List.length_drop]; have := h.2.1; omega
theorem Run.adv {m : Rd} {a r : List UInt8} (h : Run m (a ++ r)) : Run (adv m a.length) r := by
  have hl := h.len
  rw [List.length_append] at hl
  refine ⟨h.1, ?_, ?_⟩
  · show m.nx + a.length ≤ m.t.length; omega
  · show m.t.drop (m.nx + a.length) = r
    rw [← List.drop_drop, h.2.2]
    simp
theorem Run.left {m : Rd} {r : List UInt8} (h : Run m r) : m.left = r.length := by
  have := h.len
  unfold Rd.left
  rw [if_pos h.1]
  omega
theorem diff_pre : ∀ (s r : List UInt8), diff s (s ++ r) = none
  | [], r => by simp [diff]
  | c :: s, r => by simp [diff, diff_pre s r]
theorem diff_cut : ∀ (r a : List UInt8), diff (r ++ a) r = none
  | [], a => by cases a <;> rfl
  | c :: r, a => by simp [diff, diff_cut r a]
theorem diff_sound : ∀ (s l : List UInt8), diff s l = none → s.length ≤ l.length → ∃ r, l = s ++ r
  | [], l, _, _ => ⟨l, rfl⟩
  | c :: s, [], _, h => by simp at h
  | c :: s, d :: l, h, hl => by
    by_cases e : c = d
    · subst e
      simp only [diff, if_true] at h
      have h2 : diff s l = none := by
        cases hd : diff s l with
        | none => rfl
        | some x => rw [hd] at h; cases h
      obtain ⟨r, rfl⟩ := diff_sound s l h2 (by simpa using hl)
      exact ⟨r, rfl⟩
    · simp [diff, e] at h
theorem Run.want {m : Rd} {s r : List UInt8} (h : Run m (s ++ r)) : m.want s = (Go.Proofs.Ytdoheningeafhaa.adv m s.length, true) := by
  unfold Rd.want
  rw [if_pos h.1, h.2.2, diff_pre]
  simp only
  rw [if_neg (by simp)]
  rfl
theorem Run.take {m : Rd} {a r : List UInt8} (h : Run m (a ++ r)) : m.take (a.length : Int) = (Go.Proofs.Ytdoheningeafhaa.adv m a.length, a) := by
  have hl := h.len
  rw [List.length_append] at hl
  rw [take_all m a.length h.1 (by omega), h.2.2]
  simp [Go.Proofs.Ytdoheningeafhaa.adv]
theorem Run.take_k {m : Rd} {a r : List UInt8} (k : Int) (h : Run m (a ++ r)) (hk : (a.length : Int) = k) : m.take k = (Go.Proofs.Ytdoheningeafhaa.adv m a.length, a) := by subst hk; exact h.take
theorem short_fell {m : Rd} {r : List UInt8} (h : Run m r) : Fell m m.short := by
  unfold Rd.short
  rw [Rd.fail_yes m 1 _ h.1 (by decide)]
  exact ⟨rfl, rfl, rfl, rfl⟩
theorem Run.take_fell {m : Rd} {r : List UInt8} (k : Int) (h : Run m r) (hk : (r.length : Int) < k) : Fell m (m.take k).1 ∧ (m.take k).2 = [] := by
  have hl := h.len
  unfold Rd.take
  rw [if_pos h.1, if_pos (.inr (by omega))]
  exact ⟨short_fell h, rfl⟩
theorem Run.want_fell {m : Rd} {r a s : List UInt8} (h : Run m r) (hs : s = r ++ a) (ha : 0 < a.length) : Fell m (m.want s).1 := by
  subst hs
  unfold Rd.want
  rw [if_pos h.1, h.2.2, diff_cut]
  simp only
  rw [if_pos (by rw [List.length_append]; omega)]
  exact short_fell h
theorem Fell.take {m m' : Rd} (h : Fell m m') (k : Int) : m'.take k = (m', []) := by
  unfold Rd.take
  rw [if_neg (by rw [h.1]; decide)]
theorem Fell.want {m m' : Rd} (h : Fell m m') (s : List UInt8) : (m'.want s).1 = m' := by
  unfold Rd.want
  rw [if_neg (by rw [h.1]; decide)]
theorem Fell.adv {m m' : Rd} {k : Nat} (h : Fell (adv m k) m') : Fell m m' := h
theorem Fell.cd {m m' : Rd} (h : Fell m m') : m'.cd ≠ 0 := by rw [h.1]; decide
theorem cut_step {r q a s : List UInt8} (h : r ++ q = a ++ s) : (∃ r', r = a ++ r' ∧ r' ++ q = s) ∨ ∃ a', a = r ++ a' ∧ 0 < a'.length := by
  rcases List.append_eq_append_iff.1 h with ⟨a', h1, h2⟩ | ⟨c', h1, h2⟩
  · cases a' with
    | nil => exact .inl ⟨[], by simpa using h1.symm, by simpa using h2⟩
    | cons c a' => exact .inr ⟨_, h1, by simp⟩
  · exact .inl ⟨c', h1, h2.symm⟩
/-- a step that went well -/
theorem take_ok_of {m : Rd} {k : Nat} (hm : m.nx ≤ m.t.length) (h : (m.take (k : Int)).1.cd = 0) : m.cd = 0 ∧ m.nx + k ≤ m.t.length ∧ m.take (k : Int) = (adv m k, (m.t.drop m.nx).take k) := by
  by_cases hc : m.cd = 0
  · by_cases hk : m.nx + k ≤ m.t.length
    · exact ⟨hc, hk, take_all m k hc hk⟩
    · exfalso
      have hr : Run m (m.t.drop m.nx) := ⟨hc, hm, rfl⟩
      have := (hr.take_fell (k : Int) (by rw [List.length_drop]; omega)).1
      rw [this.1] at h
      exact absurd h (by decide)
  · exfalso
    have : m.take (k : Int) = (m, []) := by unfold Rd.take; rw [if_neg hc]
    rw [this] at h
    exact hc h
theorem want_ok_of {m : Rd} {s : List UInt8} (hm : m.nx ≤ m.t.length) (h : (m.want s).1.cd = 0) : m.cd = 0 ∧ m.nx + s.length ≤ m.t.length ∧ (m.want s).1 = adv m s.length ∧ (m.t.drop m.nx).take s.length = s := by
  by_cases hc : m.cd = 0
  · unfold Rd.want at h ⊢
    rw [if_pos hc] at h ⊢
    rcases hd : diff s (m.t.drop m.nx) with _ | i
    · rw [hd] at h
      simp only at h
      by_cases hl : (m.t.drop m.nx).length < s.length
      · rw [if_pos hl] at h
        have := short_fell (m := m) ⟨hc, hm, rfl⟩
        rw [this.1] at h
        exact absurd h (by decide)
      · rw [if_neg hl]
        obtain ⟨r, hr⟩ := diff_sound _ _ hd (by omega)
        rw [List.length_drop] at hl
        refine ⟨hc, by omega, rfl, ?_⟩
        rw [hr]
        simp
    · rw [hd] at h
      simp only at h
      rw [Rd.fail_yes m 1 _ hc (by decide)] at h
      have h9 : (1 : Int) = 0 := h
      exact absurd h9 (by decide)
  · exfalso
    have : (m.want s).1 = m := by unfold Rd.want; rw [if_neg hc]
    rw [this] at h
    exact hc h
theorem adv_nx (m : Rd) (k : Nat) (h : m.nx + k ≤ m.t.length) : (adv m k).nx ≤ (adv m k).t.length := h
theorem drop_parts (t : List UInt8) (n k : Nat) : t.drop n = (t.drop n).take k ++ t.drop (n + k) := by
  rw [← List.drop_drop]; exact (List.take_append_drop k _).symm
theorem numL_one (c : UInt8) : numL [c] = c.toNat := by simp [numL]
theorem big_one (l : List UInt8) (h : l.length = 1) : bigL (UInt8.ofNat (numL l)).toNat 1 = l := by
  match l, h with
  | [c], _ =>
    rw [numL_one]
    have hc := UInt8.toNat_lt c
    simp [bigL, smallL]
theorem smallL_numL : ∀ (l : List UInt8), smallL (numL l.reverse) l.length = l
  | [] => rfl
  | c :: l => by
    have hc := UInt8.toNat_lt c
    rw [List.reverse_cons, numL_snoc, List.length_cons, smallL]
    have e1 : UInt8.ofNat (numL l.reverse * 256 + c.toNat) = c := by
      rw [← ofNat_mod, show (numL l.reverse * 256 + c.toNat) % 256 = c.toNat by omega]
      simp
    rw [e1, show (numL l.reverse * 256 + c.toNat) / 256 = numL l.reverse by omega, smallL_numL l]
theorem numL_smallL (k n : Nat) : numL (smallL n k).reverse = n % 256 ^ k := numL_bigL k n
theorem small_four (n : Nat) (h : n < 4294967296) : numL (smallL n 4).reverse = n := by
  rw [numL_smallL]
  exact Nat.mod_eq_of_lt h
theorem small_eight (n : Nat) (h : n < 18446744073709551616) : numL (smallL n 8).reverse = n := by
  rw [numL_smallL]
  exact Nat.mod_eq_of_lt h
theorem big_num (n : Nat) (h : n < 256) : numL (bigL n 1) = n := by
  rw [numL_bigL]
  exact Nat.mod_eq_of_lt h
theorem numL_lt4 (l : List UInt8) (h : l.length = 4) : numL l < 4294967296 := by have := numL_bound l; rw [h] at this; exact this
theorem numL_lt8 (l : List UInt8) (h : l.length = 8) : numL l < 18446744073709551616 := by have := numL_bound l; rw [h] at this; exact this
end Go.Proofs.Ytdoheningeafhaa
