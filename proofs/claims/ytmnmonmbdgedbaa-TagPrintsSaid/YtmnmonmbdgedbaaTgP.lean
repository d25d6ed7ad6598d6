/- Layer 15 (tag), plain: the form of what is printed; how long the body of a tag that isn't great is. | Layer 15 (tag): the statement TopSync, plain: spreading is of no account. -/
import Derived.Test.YtmnmonmbdgedbaaTgA
import Derived.Test.YtmnmonmbdgedbaaFrS
import Derived.Test.YtmnmonmbdgedbaaTg12

namespace Go.Proofs.Ytmnmonmbdgedbaa
open Go.RowKit
set_option linter.unusedVariables false
set_option linter.unusedSimpArgs false

theorem list4 {α : Type} {l : List α} (h : l.length = 4) : ∃ a b c d, l = [a, b, c, d] := by
  match l, h with
  | [a, b, c, d], _ => exact ⟨a, b, c, d, rfl⟩
theorem printT_form (t : Tg) (hb : badH t.v t.rv t.fl = false) (hN : (bodyT t.v t.fl t.fs).length ≤ 268435455) : ∃ q a b c d : UInt8, a.toNat < 128 ∧ b.toNat < 128 ∧ c.toNat < 128 ∧ d.toNat < 128 ∧
    ((a.toNat * 128 + b.toNat) * 128 + c.toNat) * 128 + d.toNat = (bodyT t.v t.fl t.fs).length ∧
    printT t = 73 :: 68 :: 51 :: q :: t.rv :: t.fl :: a :: b :: c :: d :: (bodyT t.v t.fl t.fs ++ (if footB t.v t.fl = true then [51, 68, 73, q, t.rv, t.fl, a, b, c, d] else [])) := by
  obtain ⟨hv, _, _⟩ := badH_ok hb
  obtain ⟨a, b, c, d, e⟩ := list4 (safeL_len (bodyT t.v t.fl t.fs).length)
  have hn := num7_safeL _ hN
  have hlo := safeL_low (bodyT t.v t.fl t.fs).length
  rw [e] at hn hlo
  have lo : ∀ x ∈ [a, b, c, d], x.toNat < 128 := fun x hx => by have := hlo x hx; unfold hi at this; simp at this; omega
  have hh : headL t.v t.rv t.fl (bodyT t.v t.fl t.fs).length = [UInt8.ofNat t.v.toNat, t.rv, t.fl, a, b, c, d] := by
    unfold headL headT
    rw [bigL_nat _ (by omega), bigL_1, bigL_1, e]
    rfl
  refine ⟨UInt8.ofNat t.v.toNat, a, b, c, d, lo a (by simp), lo b (by simp), lo c (by simp), lo d (by simp), ?_, ?_⟩
  · rw [← hn]
    simp [num7]
  · unfold printT tailT
    rw [hh]
    split <;> simp
theorem bodyL_le (v : Int) (k : Nat) : ∀ (fs : List Fr), (∀ f ∈ fs, checkF v f = 0 ∧ f.bo.length ≤ k) → (bodyL v fs).length ≤ (2 * k + 15) * fs.length
  | [], _ => by simp [bodyL]
  | f :: fs, h => by
    have h1 := bodyL_le v k fs (fun x hx => h x (List.mem_cons_of_mem _ hx))
    obtain ⟨h2, h3⟩ := h f List.mem_cons_self
    have h4 := print_len_le v f (named_pos (checkF_ok h2).1).2.1
    have hb : bodyL v (f :: fs) = printF v f ++ bodyL v fs := by simp [bodyL]
    rw [hb, List.length_append, List.length_cons, Nat.mul_succ]
    omega
theorem light_body {t : Tg} (hl : lightT t.fs = true) (hc : (checkT t).1 = 0) : (bodyL t.v t.fs).length ≤ 20000 := by
  obtain ⟨_, _, hf, _⟩ := checkT_ok hc
  unfold lightT lightF at hl
  simp only [Bool.and_eq_true, List.all_eq_true, decide_eq_true_eq] at hl
  have h1 := bodyL_le t.v 300 t.fs (fun f hx => ⟨(badIn_ok (hf f hx)).1, (hl.1 f hx).1⟩)
  have h2 := hl.2
  have h3 : (2 * 300 + 15) * t.fs.length ≤ (2 * 300 + 15) * 30 := Nat.mul_le_mul_left _ h2
  omega
theorem light_parts {fs : List Fr} (hl : lightT fs = true) : fs.length ≤ 30 ∧ ∀ f ∈ fs, f.id.length ≤ 50 ∧ f.bo.length ≤ 300 := by
  unfold lightT lightF at hl
  simp only [Bool.and_eq_true, List.all_eq_true, decide_eq_true_eq] at hl
  exact ⟨hl.2, fun f hx => ⟨(hl.1 f hx).2, (hl.1 f hx).1⟩⟩
/-- behind each FF of what was put, from its first byte on, stands a byte below E0 -/
theorem put_next (pre l s : List UInt8) (hs : s = pre ++ sndPut l) (j : Nat) (hj : pre.length ≤ j) (h : j < s.length) (h255 : s[j].toNat = 255) : ∃ h2 : j + 1 < s.length, s[j + 1].toNat < 224 := by
  subst hs
  have e1 : (pre ++ sndPut l)[j]? = some ((pre ++ sndPut l)[j]) := List.getElem?_eq_getElem h
  have c255 : (pre ++ sndPut l)[j] = 255 := by rw [u8_eq]; exact h255
  rw [c255, List.getElem?_append_right hj] at e1
  obtain ⟨d, hd, hlt⟩ := put_at l _ e1
  have e2 : (pre ++ sndPut l)[j + 1]? = some d := by
    rw [List.getElem?_append_right (by omega), show j + 1 - pre.length = j - pre.length + 1 by omega]
    exact hd
  obtain ⟨h2, h3⟩ := List.getElem?_eq_some_iff.1 e2
  exact ⟨h2, by rw [h3]; exact hlt⟩
end Go.Proofs.Ytmnmonmbdgedbaa

namespace Go.Proofs.Ytmnmonmbdgedbaa
open Go.RowKit
set_option linter.unusedVariables false
set_option linter.unusedSimpArgs false

set_option maxRecDepth 100000 in
theorem fl_spread_facts : ∀ n : Nat, n < 256 → tb (UInt8.ofNat n &&& 127) 128 = false ∧ tb ((UInt8.ofNat n &&& 127) ||| 128) 128 = true ∧ anB (UInt8.ofNat n &&& 127) (192 - (192 &&& 64)) = anB ((UInt8.ofNat n &&& 127) ||| 128) (192 - (192 &&& 64)) ∧
    anB (UInt8.ofNat n &&& 127) (224 - (224 &&& 64)) = anB ((UInt8.ofNat n &&& 127) ||| 128) (224 - (224 &&& 64)) := by decide
theorem fl_spread (fl : UInt8) : tb (fl &&& 127) 128 = false ∧ tb ((fl &&& 127) ||| 128) 128 = true ∧ anB (fl &&& 127) (192 - (192 &&& 64)) = anB ((fl &&& 127) ||| 128) (192 - (192 &&& 64)) ∧
    anB (fl &&& 127) (224 - (224 &&& 64)) = anB ((fl &&& 127) ||| 128) (224 - (224 &&& 64)) := by
  have e : UInt8.ofNat fl.toNat = fl := by simp
  have h := fl_spread_facts fl.toNat (UInt8.toNat_lt fl)
  rw [e] at h
  exact h
theorem checkT_spread (v : Int) (rv fl : UInt8) (fs : List Fr) (hv : v = 2 ∨ v = 3) : checkT ⟨v, rv, fl &&& 127, fs⟩ = checkT ⟨v, rv, (fl &&& 127) ||| 128, fs⟩ := by
  obtain ⟨_, _, h2, h3⟩ := fl_spread fl
  have hb : badH v rv (fl &&& 127) = badH v rv ((fl &&& 127) ||| 128) := by
    unfold badH
    rcases hv with rfl | rfl
    · have e : allowN 2 = 192 := rfl
      rw [e, h2]
    · have e : allowN 3 = 224 := rfl
      rw [e, h3]
  have hf : badIn v (fl &&& 127) = badIn v ((fl &&& 127) ||| 128) := by
    funext f
    unfold badIn
    have h4 : decide (v = 4) = false := by rcases hv with rfl | rfl <;> rfl
    rw [h4]
    simp
  unfold checkT firstBad
  simp only [hb, hf]
theorem andnot128 (fl : UInt8) : bits .andNot .u8 (fl.toNat : Int) 128 = ((fl &&& 127).toNat : Int) := by
  have h := an_bits fl 128 (by decide)
  have e : (((128 : Nat) : Int)) = 128 := rfl
  rw [e] at h
  rw [h, UInt8.toNat_and]
  rfl
theorem or128 (f0 : UInt8) : bits .or .u8 (f0.toNat : Int) 128 = ((f0 ||| 128).toNat : Int) := orB f0 128
end Go.Proofs.Ytmnmonmbdgedbaa
