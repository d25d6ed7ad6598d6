/- Layer 9 (charset): the signs of two bytes in a charset, walked. -/
import Derived.Test.YtffhmjlojmoomaaGreatDoorZB7
import Derived.Test.YtffhmjlojmoomaaGreatDoorZW14

namespace Go.Proofs.YtffhmjlojmoomaaGreatDoor
open Go.RowKit
set_option linter.unusedVariables false
set_option linter.unusedSimpArgs false

theorem spF_mem (code p : Nat) : ∀ L : List (Nat × Nat × Nat), spF code L = some p → ∃ x ∈ L, x.1 ≤ code ∧ code < x.1 + x.2.2 ∧ p = x.2.1 + (code - x.1)
  | [], h => by cases h
  | x :: L, h => by
    unfold spF at h
    split at h
    · rename_i hx
      exact ⟨x, by simp, hx.1, hx.2, (Option.some.inj h).symm⟩
    · obtain ⟨y, hy, h1⟩ := spF_mem code p L h
      exact ⟨y, by simp [hy], h1⟩
theorem spW_sc : ∀ x ∈ spW, 128 ≤ x.2.1 ∧ (x.2.1 + x.2.2 ≤ 55296 ∨ (57344 ≤ x.2.1 ∧ x.2.1 + x.2.2 ≤ 65536)) := by decide
theorem othW_sc {C : Cst} (hC : CstOk C) {code p : Nat} (h : othW C code = some p) : Sc p ∧ 128 ≤ p := by
  unfold othW at h
  split at h
  · cases h
  split at h
  · obtain ⟨x, hx, h1, h2, rfl⟩ := spF_mem code p spW h
    have := spW_sc x hx
    unfold Sc
    omega
  · have hm := atW_mem h
    obtain ⟨-, -, -, h4⟩ := hC.wL
    have : 128 ≤ p ∧ p < 65536 ∧ (p < 55296 ∨ 57344 ≤ p) := by
      unfold lisW at hm
      split at hm
      · exact h4 p (by simp [hm])
      split at hm
      · exact h4 p (by simp [hm])
      split at hm
      · exact h4 p (by simp [hm])
      · cases hm
    unfold Sc
    omega
theorem wG_28 (C : Cst) (b : Bool) : ∀ g ∈ wG C b, g.length = 28 := by
  intro g hg
  unfold wG at hg
  split at hg
  · exact wB_28 C g hg
  · obtain ⟨l, hl, rfl⟩ := List.mem_map.1 hg
    rw [List.length_map]
    exact wB_28 C l hl
theorem wPl_sc {C : Cst} {b : Bool} {k : Int} {p : Nat} (h : wPl C b k = some p) : Sc p ∧ 128 ≤ p := by
  unfold wPl at h
  split at h
  · cases h
  · unfold wCh at h
    obtain ⟨i, hi, rfl⟩ := Option.map_eq_some_iff.1 h
    have h1 := (pick_get _ _ _ (wG_28 C b) hi).1
    have h2 := (List.getElem?_eq_some_iff.1 h1).1
    rw [flat28 _ (wG_28 C b), wG_len] at h2
    unfold Sc
    omega
theorem signW_sc {C : Cst} (hC : CstOk C) {a b p : Nat} (h : signW C a b = some p) : Sc p ∧ 128 ≤ p := by
  unfold signW at h
  split at h
  · cases h
  split at h
  · unfold rowW at h
    split at h
    · cases h
    · split at h
      · rename_i q hq
        obtain rfl := Option.some.inj h
        exact wPl_sc hq
      · exact othW_sc hC h
  split at h
  · cases h
  split at h
  · exact wPl_sc h
  · exact wPl_sc h
theorem twF_sc (s : Nat) : ∀ L : List (Nat × Nat × Nat), (∀ x ∈ L, Sc x.2.1 ∧ Sc x.2.2 ∧ 128 ≤ x.2.1 ∧ 128 ≤ x.2.2) → ∀ l, twF s L = some l → l ≠ [] ∧ ∀ p ∈ l, Sc p ∧ 128 ≤ p
  | [], _, l, h => by cases h
  | x :: L, hL, l, h => by
    unfold twF at h
    split at h
    · obtain rfl := Option.some.inj h
      refine ⟨by simp, fun p hp => ?_⟩
      have := hL x (by simp)
      simp only [List.mem_cons, List.not_mem_nil, or_false] at hp
      rcases hp with rfl | rfl
      · exact ⟨this.1, this.2.2.1⟩
      · exact ⟨this.2.1, this.2.2.2⟩
    · exact twF_sc s L (fun y hy => hL y (by simp [hy])) l h
theorem sgB_sc {C : Cst} (hC : CstOk C) {a b : Nat} {l : List Nat} (h : sgB C a b = some l) : l ≠ [] ∧ ∀ p ∈ l, Sc p ∧ 128 ≤ p := by
  unfold sgB at h
  rcases ho : oneB C a b with _ | p
  · rw [ho] at h
    simp only at h
    split at h
    · exact twF_sc b twB (fun x hx => (twB_ok x hx).2) l h
    · cases h
  · rw [ho] at h
    obtain rfl := Option.some.inj h
    exact ⟨by simp, fun q hq => by obtain rfl := List.mem_singleton.1 hq; exact oneB_sc hC ho⟩
/-- the signs of two bytes, by the charset's number -/
def sgC (C : Cst) (c a b : Nat) : Option (List Nat) := if c = 4 then (signW C a b).map (fun p => [p]) else if c = 5 then (jSign ((a : Int) * 256 + b)).map (fun p => [p]) else sgB C a b
theorem sgC_sc {C : Cst} (hC : CstOk C) {c a b : Nat} (ha : a < 256) (hb : b < 256) {l : List Nat} (h : sgC C c a b = some l) : l ≠ [] ∧ ∀ p ∈ l, Sc p ∧ 128 ≤ p := by
  unfold sgC at h
  split at h
  · obtain ⟨p, hp, rfl⟩ := Option.map_eq_some_iff.1 h
    exact ⟨by simp, fun q hq => by obtain rfl := List.mem_singleton.1 hq; exact signW_sc hC hp⟩
  split at h
  · obtain ⟨p, hp, rfl⟩ := Option.map_eq_some_iff.1 h
    have := jSign_sc (by omega) hp
    exact ⟨by simp, fun q hq => by obtain rfl := List.mem_singleton.1 hq; unfold Sc; omega⟩
  · exact sgB_sc hC h
/-- .. as a text; the empty one: there are none -/
def txC (C : Cst) (c : Nat) (a b : UInt8) : List UInt8 := encs ((sgC C c a.toNat b.toNat).getD [])
set_option maxHeartbeats 4000000 in
set_option maxRecDepth 100000 in
theorem csigns_any (C : Cst) (hC : Hid (CstOk C)) (c : Nat) (hc : c = 4 ∨ c = 5 ∨ c = 6) (a b : UInt8) (w : World) (hD : Hid (DeB w)) : Calls Tryz.prog 56 #[.int .i64 c, .int .u8 a.toNat, .int .u8 b.toNat] w fun e w' => e = .returned (.string ⟨(txC C c a b).toArray⟩) ∧ Below w.heap.size w w' := by
  have ha := UInt8.toNat_lt a
  have hb := UInt8.toNat_lt b
  have HSC : Hid (∀ l, sgC C c a.toNat b.toNat = some l → ∀ p ∈ l, Sc p) := Lib.hid (fun l h p hp => ((sgC_sc hC.out ha hb h).2 p hp).1)
  have HX : Hid (txC C c a b = encs ((sgC C c a.toNat b.toNat).getD [])) := Lib.hid rfl
  have ha' : (a.toNat : Int) < 256 := by omega
  have hb' : (b.toNat : Int) < 256 := by omega
  have PT : Hid (∀ p, Sc p → ∀ (w : World) T, Calls Tryz.prog 32 #[.slice (some ⟨w.heap.size, 0, none⟩) 1 1] (w.alloc (.cells #[.int .i32 (p : Nat)] T)) fun e w' => e = .returned (.tuple #[.string ⟨(encs [p]).toArray⟩, .bool true]) ∧ Below (w.alloc (.cells #[.int .i32 (p : Nat)] T)).heap.size (w.alloc (.cells #[.int .i32 (p : Nat)] T)) w') := Lib.hid (fun p hp w T => ptext_any (some ⟨w.heap.size, 0, none⟩) 1 1 [p] (Lib.hid (fun q hq => by obtain rfl := List.mem_singleton.1 hq; exact hp)) (w.alloc (.cells #[.int .i32 (p : Nat)] T)) (Lib.hid (RunesAt.one w p T)) (by omega))
  obtain rfl | rfl | rfl := hc
  · have HS : Hid (sgC C 4 a.toNat b.toNat = (signW C a.toNat b.toNat).map (fun p => [p])) := Lib.hid rfl
    have WS := Lib.hid (wsign_any C hC a.toNat b.toNat ha' hb' w hD)
    clear ha hb
    go_enter Tryz.func56, Tryz.ntmps56
    rcases ho : signW C a.toNat b.toNat with _ | p
    · rw [ho] at HS WS
      clear ho
      go_wp2_with (go_at_call 37; (with_reducible refine WS.out.mono ?_); rintro e w1 ⟨rfl, hb1⟩; have K := Lib.hid hb1; clear hb1)
      go_ret
      rw [HX.out, HS.out]
      exact ⟨rfl, K.out⟩
    · rw [ho] at HS WS
      have PP := Lib.hid (PT.out p (HSC.out [p] HS.out p (by simp)))
      clear ho
      go_wp2_with (first | (go_at_call 37; (with_reducible refine WS.out.mono ?_); rintro e w1 ⟨rfl, hb1⟩; have K := Lib.hid hb1; clear hb1) | (go_at_call 32; (with_reducible refine (PP.out _ _).mono ?_); rintro e w3 ⟨rfl, hb3⟩; replace K := Lib.hid (nextB (K.out.alloc K.out.size _) hb3); clear hb3))
      go_ret
      rw [HX.out, HS.out]
      exact ⟨rfl, K.out⟩
  · have HS : Hid (sgC C 5 a.toNat b.toNat = (jSign ((a.toNat : Int) * 256 + b.toNat)).map (fun p => [p])) := Lib.hid rfl
    have JS := Lib.hid (jsign_any a b w)
    have K := Lib.hid (Below.refl w.heap.size w)
    clear ha hb
    go_enter Tryz.func56, Tryz.ntmps56
    rcases ho : jSign ((a.toNat : Int) * 256 + b.toNat) with _ | p
    · rw [ho] at HS JS
      clear ho
      go_wp2_with (go_at_call 35; (with_reducible refine JS.out.mono ?_); rintro e w1 ⟨rfl, rfl⟩)
      go_ret
      rw [HX.out, HS.out]
      exact ⟨rfl, K.out⟩
    · rw [ho] at HS JS
      have PP := Lib.hid (PT.out p (HSC.out [p] HS.out p (by simp)))
      clear ho
      go_wp2_with (first | (go_at_call 35; (with_reducible refine JS.out.mono ?_); rintro e w1 ⟨rfl, rfl⟩) | (go_at_call 32; (with_reducible refine (PP.out _ _).mono ?_); rintro e w3 ⟨rfl, hb3⟩; replace K := Lib.hid (nextB (K.out.alloc K.out.size _) hb3); clear hb3))
      go_ret
      rw [HX.out, HS.out]
      exact ⟨rfl, K.out⟩
  · have HS : Hid (sgC C 6 a.toNat b.toNat = sgB C a.toNat b.toNat) := Lib.hid rfl
    have BS := Lib.hid (bsigns_any C hC a.toNat b.toNat (by omega) (by omega) w)
    clear ha hb
    go_enter Tryz.func56, Tryz.ntmps56
    go_wp2_with (go_at_call 39; (with_reducible refine BS.out.mono ?_); rintro e w1 ⟨rfl, hb1⟩; have K := Lib.hid hb1; clear hb1)
    go_ret
    rw [HX.out, HS.out]
    exact ⟨rfl, K.out⟩
end Go.Proofs.YtffhmjlojmoomaaGreatDoor
