/- Layer 2 (point): Points of a text that has a fault; the document's example. | Layer 4 (run): the document's example. -/
import Derived.Test.YtffhmjlojmoomaaGreatDoorZU31
import Derived.Deep.QuietTactic

namespace Go.Proofs.YtffhmjlojmoomaaGreatDoor
open Go.RowKit
set_option linter.unusedVariables false
set_option linter.unusedSimpArgs false

theorem flt_aca {a : Int} (h : FltAt [97, 195, 97] a) : a = 1 := by
  obtain ⟨qs, r, hq, ht, h0, hb, rfl⟩ := h
  rcases qs with _ | ⟨q, qs⟩
  · have e : r = [97, 195, 97] := ht.symm
    subst e
    exact absurd hb (by decide +kernel)
  · have hd := dec_enc (hq q (by simp)) (encs qs ++ r)
    rw [← List.append_assoc, ← encs_cons, ← ht] at hd
    have e1 : dec ([97, 195, 97] : List UInt8) = (97, 1) := by decide +kernel
    rw [e1] at hd
    injection hd with h1 h2
    subst h1
    rw [encs_cons, show encR 97 = [97] by decide +kernel, List.append_assoc] at ht
    have ht2 : ([195, 97] : List UInt8) = encs qs ++ r := (List.cons.inj ht).2
    rcases qs with _ | ⟨q2, qs⟩
    · rfl
    · exfalso
      have hd := dec_enc (hq q2 (by simp)) (encs qs ++ r)
      rw [← List.append_assoc, ← encs_cons, ← ht2] at hd
      have e1 : dec ([195, 97] : List UInt8) = (65533, 1) := by decide +kernel
      rw [e1] at hd
      injection hd with h1 h2
      rw [← h1, show encR 65533 = [239, 191, 189] by decide +kernel] at h2
      exact absurd h2 (by decide)
theorem aca_bad : ¬ Good [97, 195, 97] := by
  rintro ⟨ps, hp, ht⟩
  rcases ps with _ | ⟨q, ps⟩
  · cases ht
  · have hd := dec_enc (hp q (by simp)) (encs ps)
    rw [← encs_cons, ← ht, show dec ([97, 195, 97] : List UInt8) = (97, 1) by decide +kernel] at hd
    injection hd with h1 h2
    rw [encs_cons, ← h1, show encR 97 = [97] by decide +kernel] at ht
    have ht2 : ([195, 97] : List UInt8) = encs ps := (List.cons.inj ht).2
    rcases ps with _ | ⟨q2, ps⟩
    · cases ht2
    · have hd := dec_enc (hp q2 (by simp)) (encs ps)
      rw [← encs_cons, ← ht2, show dec ([195, 97] : List UInt8) = (65533, 1) by decide +kernel] at hd
      injection hd with h1 h2
      rw [← h1, show encR 65533 = [239, 191, 189] by decide +kernel] at h2
      exact absurd h2 (by decide)
set_option maxHeartbeats 4000000 in
set_option maxRecDepth 100000 in
theorem points_aca (w : World) (hT : Hid (Tabs w)) : Calls Tryz.prog 33 #[.string ⟨([97, 195, 97] : List UInt8).toArray⟩] w fun e w' => e = .returned (.tuple #[.slice none 0 0, .agg #[.int .i64 2, .int .i64 1]]) ∧ Below w.heap.size w w' := by
  have SC : Hid (∀ w, Hid (Tabs w) → Calls Tryz.prog 53 #[.string ⟨([97, 195, 97] : List UInt8).toArray⟩] w fun e w' => ∃ n : Int, e = .returned (.tuple #[.int .i64 n, .agg #[.int .i64 2, .int .i64 1]]) ∧ Below w.heap.size w w') := Lib.hid (fun w hT => (scan_two _ (by decide) w hT).mono fun e w' ⟨n, c, a, he, hc, hb⟩ => by
    rcases hc.out with ⟨h1, _⟩ | ⟨_, rfl, h3⟩
    · exact absurd h1 aca_bad
    · obtain rfl := flt_aca h3
      exact ⟨n, he, hb⟩)
  have BD := Lib.hid (fun w => bad_any 2 1 w)
  rw [show ((2 : Int) != 0) = true by rfl] at BD
  have F := Lib.hid (at_a0 w #[.int .i64 0, .int .i64 0] 26)
  have K := Lib.hid ((Below.refl w.heap.size w).alloc (Nat.le_refl _) (.cells #[.int .i64 0, .int .i64 0] 26))
  have T := Lib.hid (hT.out.below K.out)
  obtain ⟨rb, hrb⟩ : ∃ rb, rb = w.heap.size := ⟨_, rfl⟩
  go_enter Tryz.func33, Tryz.ntmps33
  go_upto_region 1 with (fail)
  generalize w.alloc (.cells #[.int .i64 0, .int .i64 0] 26) = w0 at *
  rw [← hrb] at F
  rw [← hrb]
  have HRB := Lib.hid hrb
  clear hrb
  go_upto_region 2 with (go_at_call 53; (with_reducible refine (SC.out _ T).mono ?_); rintro e w1 ⟨n, rfl, hb1⟩; replace F := Lib.hid (block_below F.out hb1); replace K := Lib.hid (nextB K.out hb1); clear hb1)
  have CB := Lib.hid (at_a0 w1 #[.int .i64 2, .int .i64 1] 26)
  have hB := (Below.refl w1.heap.size w1).alloc (Nat.le_refl _) (.cells #[.int .i64 2, .int .i64 1] 26)
  have hrc : rb < w1.heap.size := (Array.getElem?_eq_some_iff.1 F.out).1
  replace F := Lib.hid (block_below F.out hB)
  replace K := Lib.hid (nextB K.out hB)
  clear hB
  generalize w1.alloc (.cells #[.int .i64 2, .int .i64 1] 26) = w2 at *
  generalize w1.heap.size = cb at *
  obtain ⟨y0, y1⟩ := cells2 (CB.out)
  go_upto_region 3 with (go_at_call 7; (with_reducible refine (BD.out _).mono ?_); rintro e w3 ⟨rfl, hb3⟩; replace CB := Lib.hid (block_below CB.out hb3); replace F := Lib.hid (block_below F.out hb3); replace K := Lib.hid (nextB K.out hb3); clear hb3 y0 y1; obtain ⟨y0, y1⟩ := cells2 (CB.out); obtain ⟨f0, f1⟩ := cells2 (F.out); obtain ⟨ff0, ff1⟩ := frees2 (F.out))
  have cc : w3.cell? ⟨cb, 0, none⟩ = some (.int .i64 2) ∧ w3.cell? ⟨cb, 1, none⟩ = some (.int .i64 1) := ⟨y0, y1⟩
  have n1 : cb ≠ rb := by omega
  go_region_held3 (fun w' => w'.cell? ⟨cb, 0, none⟩ = some (.int .i64 2) ∧ w'.cell? ⟨cb, 1, none⟩ = some (.int .i64 1)) (first | exact cc | exact ⟨(World.cell?_of_block (heap_set_other (b := cb) _ n1)).trans ((World.cell?_of_block (heap_set_other (b := cb) _ n1)).trans y0), (World.cell?_of_block (heap_set_other (b := cb) _ n1)).trans ((World.cell?_of_block (heap_set_other (b := cb) _ n1)).trans y1)⟩ | fail) (fail)
  go_wp2
  have hw1 : w.heap.size ≤ rb := by have := HRB.out; omega
  refine end_tmp_cell (by rfl) rfl (by rfl) (store2 F.out rfl) Tryz.underlying26 rfl (by kernel_rfl) ?_
  exact ⟨rfl, belowN ((K.out.setCell hw1 _).setCell hw1 _) 1⟩
set_option maxHeartbeats 4000000 in
set_option maxRecDepth 100000 in
theorem awake02 (w : World) (hT : Hid (Tabs w)) : Calls Tryz.prog 12 #[] w fun e w' => e = .returned (.bool true) ∧ Below w.heap.size w w' := by
  have PT : Hid (∀ (w : World) T, Calls Tryz.prog 32 #[.slice (some ⟨w.heap.size, 0, none⟩) 1 1] (w.alloc (.cells #[.int .i32 233] T)) fun e w' => e = .returned (.tuple #[.string ⟨([195, 169] : List UInt8).toArray⟩, .bool true]) ∧ Below (w.alloc (.cells #[.int .i32 233] T)).heap.size (w.alloc (.cells #[.int .i32 233] T)) w') := Lib.hid (fun w T => by
    have h := ptext_any (some ⟨w.heap.size, 0, none⟩) 1 1 [233] (Lib.hid (fun q hq => by obtain rfl := List.mem_singleton.1 hq; unfold Sc; omega)) (w.alloc (.cells #[.int .i32 ((233 : Nat) : Int)] T)) (Lib.hid (RunesAt.one w 233 T)) (by omega)
    rw [show encs [233] = [195, 169] by decide +kernel] at h
    exact h)
  have PO := Lib.hid (fun w h => points_aca w h)
  have K := Lib.hid (Below.refl w.heap.size w)
  go_enter Tryz.func12, Tryz.ntmps12
  go_upto_region 3 with (first | (go_at_call 32; (with_reducible refine (PT.out _ _).mono ?_); rintro e w3 ⟨rfl, hb3⟩; replace K := Lib.hid (nextB (K.out.alloc K.out.size _) hb3); clear hb3) | (go_at_call 33; (with_reducible refine (PO.out _ (Lib.hid (hT.out.below K.out))).mono ?_); rintro e w4 ⟨rfl, hb3⟩; replace K := Lib.hid (nextB K.out hb3); clear hb3))
  have CB := Lib.hid (at_a0 w4 #[.int .i64 2, .int .i64 1] 26)
  replace K := Lib.hid (K.out.alloc K.out.size (.cells #[.int .i64 2, .int .i64 1] 26))
  generalize w4.alloc (.cells #[.int .i64 2, .int .i64 1] 26) = w5 at *
  generalize w4.heap.size = cb at *
  obtain ⟨y0, y1⟩ := cells2 (CB.out)
  go_wp2
  go_ret
  exact ⟨rfl, K.out⟩
end Go.Proofs.YtffhmjlojmoomaaGreatDoor

namespace Go.Proofs.YtffhmjlojmoomaaGreatDoor
open Go.RowKit
set_option linter.unusedVariables false
set_option linter.unusedSimpArgs false

def awL : List Pie := [⟨0, 65, 3, []⟩, ⟨10, 0, 0, [120, 121]⟩]
def awM : List Pie := [⟨1, 65, 1, []⟩]
theorem awL_ok : (∀ p ∈ awL, PieOk p ∧ (p.tx ≠ [] → p.tp = 0 ∧ p.ct = 0)) ∧ awL.Pairwise PieDis := by
  constructor
  · intro p hp
    simp only [awL, List.mem_cons, List.not_mem_nil, or_false] at hp
    rcases hp with rfl | rfl
    · exact ⟨⟨by decide, .inl (by decide)⟩, fun h => absurd rfl h⟩
    · exact ⟨⟨by decide, .inr ⟨by decide, by decide, fun q hq => by simp only [List.mem_cons, List.not_mem_nil, or_false] at hq; unfold Sc; omega⟩⟩, fun _ => ⟨rfl, rfl⟩⟩
  · unfold awL PieDis pieN
    decide
theorem awM_ok : (∀ p ∈ awM, PieOk p ∧ (p.tx ≠ [] → p.tp = 0 ∧ p.ct = 0)) ∧ awM.Pairwise PieDis := by
  constructor
  · intro p hp
    simp only [awM, List.mem_cons, List.not_mem_nil, or_false] at hp
    subst hp
    exact ⟨⟨by decide, .inl (by decide)⟩, fun h => absurd rfl h⟩
  · unfold awM PieDis pieN
    decide
theorem pieF_off {L : List Pie} {n : Nat} (hL : ∀ p ∈ L, p.fr + pieN p ≤ n) {c : Nat} (h : n ≤ c) : pieF L c = none := by
  unfold pieF
  rw [List.findSome?_eq_none_iff]
  intro p hp
  have := hL p hp
  rw [if_neg (by omega)]
theorem aw_far (c : Nat) (h : 12 ≤ c) : pieF awL c = none ∧ pieF awM c = none := ⟨pieF_off (n := 12) (by decide) h, pieF_off (n := 12) (by decide) h⟩
theorem aw_near : ∀ c : Fin 12, (ovF (pieF awM) (pieF awL) c.val ≠ some 66) := by decide +kernel
theorem aw_66 {o : Option Nat} (h : RevOf (ovF (pieF awM) (pieF awL)) 66 o) : o = none := by
  rcases o with _ | a
  · rfl
  · exfalso
    have h1 := (h.1 a rfl).1
    rcases Nat.lt_or_ge a 12 with hlt | hge
    · exact aw_near ⟨a, hlt⟩ h1
    · obtain ⟨e1, e2⟩ := aw_far a hge
      unfold ovF at h1
      rw [e2, e1] at h1
      cases h1
theorem aw_65 {o : Option Nat} (h : RevOf (ovF (pieF awM) (pieF awL)) 65 o) : o = some 0 := by
  have h0 : ovF (pieF awM) (pieF awL) 0 = some 65 := by decide +kernel
  rcases o with _ | a
  · exact absurd h0 (h.2 rfl 0)
  · have := (h.1 a rfl).2 0 h0
    obtain rfl : a = 0 := by omega
    rfl
theorem cellsOne {w : World} {b : Nat} {v : Value} {T : TypeId} (h : w.heap[b]? = some (.cells #[v] T (0, 0))) : w.cell? ⟨b, 0, none⟩ = some v := by rw [cell_at h]; rfl
set_option maxHeartbeats 4000000 in
set_option maxRecDepth 100000 in
theorem awake04 (w : World) (hT : Hid (Tabs w)) : Calls Tryz.prog 34 #[] w fun e w' => e = .returned (.bool true) ∧ Below w.heap.size w w' := by
  have S0 : Hid (∀ w, Calls Tryz.prog 42 #[.int .i64 0, .int .i32 65, .int .i64 3] w fun e w' => e = .returned (.agg #[.int .i64 0, .int .i32 65, .int .i64 3, .string ⟨#[]⟩]) ∧ Below w.heap.size w w') := Lib.hid (fun w => seq_any 0 65 3 w)
  have S1 : Hid (∀ w, Calls Tryz.prog 42 #[.int .i64 1, .int .i32 65, .int .i64 1] w fun e w' => e = .returned (.agg #[.int .i64 1, .int .i32 65, .int .i64 1, .string ⟨#[]⟩]) ∧ Below w.heap.size w w') := Lib.hid (fun w => seq_any 1 65 1 w)
  have LI : Hid (∀ w, Calls Tryz.prog 72 #[.int .i64 10, .string ⟨([120, 121] : List UInt8).toArray⟩] w fun e w' => e = .returned (.agg #[.int .i64 10, .int .i32 0, .int .i64 0, .string ⟨([120, 121] : List UInt8).toArray⟩]) ∧ Below w.heap.size w w') := Lib.hid (fun w => plist_any 10 [120, 121] w)
  have BD := Lib.hid (fun w => bad_any 0 0 w)
  rw [show ((0 : Int) != 0) = false by rfl] at BD
  have K := Lib.hid (Below.refl w.heap.size w)
  go_enter Tryz.func34, Tryz.ntmps34
  have NL : Hid (∀ (w : World), Tabs w → Calls Tryz.prog 58 #[.slice (some ⟨w.heap.size, 0, none⟩) 2 2] (w.alloc (.cells #[.int .i64 0, .int .i32 65, .int .i64 3, .string ⟨#[]⟩, .int .i64 10, .int .i32 0, .int .i64 0, .string ⟨([120, 121] : List UInt8).toArray⟩] 69)) fun e w' => ∃ v, e = .returned (.tuple #[.agg #[v], .agg #[.int .i64 0, .int .i64 0]]) ∧ TabF w' 0 v (pieF awL) ∧ Below w.heap.size w w') := Lib.hid (fun w h => by
    have hal := (Below.refl w.heap.size w).alloc (Nat.le_refl _) (.cells #[.int .i64 0, .int .i32 65, .int .i64 3, .string ⟨#[]⟩, .int .i64 10, .int .i32 0, .int .i64 0, .string ⟨([120, 121] : List UInt8).toArray⟩] 69)
    refine (tnew_F (some ⟨w.heap.size, 0, none⟩) 2 2 awL _ (Lib.hid (recsAt_new w (awL.map pieR) 4 (pieR_len _) _ _ (by kernel_rfl) 2 rfl)) (by omega) (by omega) (by omega) (Lib.hid awL_ok.1) (Lib.hid awL_ok.2) (Lib.hid (h.below hal))).mono ?_
    rintro e w' ⟨v, he, hv, hb⟩
    exact ⟨v, he, hv.base (Nat.zero_le _), nextB hal hb⟩)
  have NM : Hid (∀ (w : World), Tabs w → Calls Tryz.prog 58 #[.slice (some ⟨w.heap.size, 0, none⟩) 1 1] (w.alloc (.cells #[.int .i64 1, .int .i32 65, .int .i64 1, .string ⟨#[]⟩] 69)) fun e w' => ∃ v, e = .returned (.tuple #[.agg #[v], .agg #[.int .i64 0, .int .i64 0]]) ∧ TabF w' 0 v (pieF awM) ∧ Below w.heap.size w w') := Lib.hid (fun w h => by
    have hal := (Below.refl w.heap.size w).alloc (Nat.le_refl _) (.cells #[.int .i64 1, .int .i32 65, .int .i64 1, .string ⟨#[]⟩] 69)
    refine (tnew_F (some ⟨w.heap.size, 0, none⟩) 1 1 awM _ (Lib.hid (recsAt_new w (awM.map pieR) 4 (pieR_len _) _ _ rfl 1 rfl)) (by omega) (by omega) (by omega) (Lib.hid awM_ok.1) (Lib.hid awM_ok.2) (Lib.hid (h.below hal))).mono ?_
    rintro e w' ⟨v, he, hv, hb⟩
    exact ⟨v, he, hv.base (Nat.zero_le _), nextB hal hb⟩)
  go_upto_region 2 with (first | (go_at_call 42; (with_reducible refine (S0.out _).mono ?_); rintro e w1 ⟨rfl, hb1⟩; replace K := Lib.hid (nextB K.out hb1); clear hb1) | (go_at_call 72; (with_reducible refine (LI.out _).mono ?_); rintro e w2 ⟨rfl, hb1⟩; replace K := Lib.hid (nextB K.out hb1); clear hb1) | (go_at_call 58; (refine (NL.out _ (hT.out.below K.out)).mono ?_); rintro e w3 ⟨v, rfl, hv, hb1⟩; obtain ⟨vb, vo, vn, vc, rfl, -⟩ := hv.view; have V := Lib.hid hv; clear hv; replace K := Lib.hid (nextB K.out hb1); clear hb1))
  have T1 := Lib.hid (at_a1 w3 #[.slice (some ⟨vb, vo, none⟩) vn vc] 43 (.cells #[.int .i64 0, .int .i64 0] 26))
  have G1 := Lib.hid (at_a2 w3 #[.int .i64 0, .int .i64 0] 26 (.cells #[.slice (some ⟨vb, vo, none⟩) vn vc] 43))
  have hB := ((Below.refl w3.heap.size w3).alloc (Nat.le_refl _) (.cells #[.slice (some ⟨vb, vo, none⟩) vn vc] 43)).alloc (by simp) (.cells #[.int .i64 0, .int .i64 0] 26)
  replace V := Lib.hid (V.out.below hB)
  replace K := Lib.hid (nextB K.out hB)
  clear hB
  generalize (w3.alloc (.cells #[.slice (some ⟨vb, vo, none⟩) vn vc] 43)).alloc (.cells #[.int .i64 0, .int .i64 0] 26) = w4 at *
  generalize w3.heap.size = tb at *
  go_upto_region 3 with (first | (go_at_call 42; (with_reducible refine (S1.out _).mono ?_); rintro e w5 ⟨rfl, hb1⟩; replace T1 := Lib.hid (block_below T1.out hb1); replace G1 := Lib.hid (block_below G1.out hb1); replace V := Lib.hid (V.out.below hb1); replace K := Lib.hid (nextB K.out hb1); clear hb1) | (go_at_call 58; (refine (NM.out _ (hT.out.below K.out)).mono ?_); rintro e w6 ⟨v2, rfl, hv, hb1⟩; obtain ⟨ub, uo, un, uc, rfl, -⟩ := hv.view; have U := Lib.hid hv; clear hv; replace T1 := Lib.hid (block_below T1.out hb1); replace G1 := Lib.hid (block_below G1.out hb1); replace V := Lib.hid (V.out.below hb1); replace K := Lib.hid (nextB K.out hb1); clear hb1))
  have T2 := Lib.hid (at_a1 w6 #[.slice (some ⟨ub, uo, none⟩) un uc] 43 (.cells #[.int .i64 0, .int .i64 0] 26))
  have G2 := Lib.hid (at_a2 w6 #[.int .i64 0, .int .i64 0] 26 (.cells #[.slice (some ⟨ub, uo, none⟩) un uc] 43))
  have hb1 := ((Below.refl w6.heap.size w6).alloc (Nat.le_refl _) (.cells #[.slice (some ⟨ub, uo, none⟩) un uc] 43)).alloc (by simp) (.cells #[.int .i64 0, .int .i64 0] 26)
  replace T1 := Lib.hid (block_below T1.out hb1); replace G1 := Lib.hid (block_below G1.out hb1); replace V := Lib.hid (V.out.below hb1)
  replace U := Lib.hid (U.out.below hb1)
  replace K := Lib.hid (nextB K.out hb1); clear hb1
  generalize (w6.alloc (.cells #[.slice (some ⟨ub, uo, none⟩) un uc] 43)).alloc (.cells #[.int .i64 0, .int .i64 0] 26) = w7 at *
  generalize w6.heap.size = ub2 at *
  have a0 : w7.cell? ⟨tb, 0, none⟩ = some (.slice (some ⟨vb, vo, none⟩) vn vc) := by rw [cell_at T1.out]; rfl
  have b0 : w7.cell? ⟨ub2, 0, none⟩ = some (.slice (some ⟨ub, uo, none⟩) un uc) := by rw [cell_at T2.out]; rfl
  go_upto_region 4 with (go_at_call 73; (refine (tover_F 0 _ _ _ _ w7 (Nat.zero_le _) U.out V.out).mono ?_); rintro e w8 ⟨v3, rfl, hv, hb1⟩; obtain ⟨xb, xo, xn, xc, rfl, -⟩ := hv.view; have X := Lib.hid hv; clear hv; replace T1 := Lib.hid (block_below T1.out hb1); replace G1 := Lib.hid (block_below G1.out hb1); replace V := Lib.hid (V.out.below hb1); replace T2 := Lib.hid (block_below T2.out hb1); replace G2 := Lib.hid (block_below G2.out hb1); replace K := Lib.hid (nextB K.out hb1); clear hb1)
  clear a0 b0 U T2
  have T3 := Lib.hid (at_a0 w8 #[.slice (some ⟨xb, xo, none⟩) xn xc] 43)
  have hb1 := (Below.refl w8.heap.size w8).alloc (Nat.le_refl _) (.cells #[.slice (some ⟨xb, xo, none⟩) xn xc] 43)
  replace T1 := Lib.hid (block_below T1.out hb1); replace G1 := Lib.hid (block_below G1.out hb1); replace V := Lib.hid (V.out.below hb1)
  replace X := Lib.hid (X.out.below hb1)
  replace G2 := Lib.hid (block_below G2.out hb1)
  replace K := Lib.hid (nextB K.out hb1); clear hb1
  generalize w8.alloc (.cells #[.slice (some ⟨xb, xo, none⟩) xn xc] 43) = w9 at *
  generalize w8.heap.size = xb2 at *
  have c0 : w9.cell? ⟨xb2, 0, none⟩ = some (.slice (some ⟨xb, xo, none⟩) xn xc) := by rw [cell_at T3.out]; rfl
  go_upto_region 5 with (go_at_call 74; (refine (treverse_F _ _ 65 (by decide) w9 X.out).mono ?_); rintro e w10 ⟨o1, rfl, ho1, hb1⟩; obtain rfl := aw_65 ho1; replace T1 := Lib.hid (block_below T1.out hb1); replace G1 := Lib.hid (block_below G1.out hb1); replace V := Lib.hid (V.out.below hb1); replace T3 := Lib.hid (block_below T3.out hb1); replace G2 := Lib.hid (block_below G2.out hb1); replace X := Lib.hid (X.out.below hb1); replace K := Lib.hid (nextB K.out hb1); clear hb1)
  clear c0
  have c0 : w10.cell? ⟨xb2, 0, none⟩ = some (.slice (some ⟨xb, xo, none⟩) xn xc) := by rw [cell_at T3.out]; rfl
  go_upto_region 6 with (go_at_call 74; (refine (treverse_F _ _ 66 (by decide) w10 X.out).mono ?_); rintro e w11 ⟨o2, rfl, ho2, hb1⟩; obtain rfl := aw_66 ho2; replace T1 := Lib.hid (block_below T1.out hb1); replace G1 := Lib.hid (block_below G1.out hb1); replace V := Lib.hid (V.out.below hb1); replace T3 := Lib.hid (block_below T3.out hb1); replace G2 := Lib.hid (block_below G2.out hb1); replace X := Lib.hid (X.out.below hb1); replace K := Lib.hid (nextB K.out hb1); clear hb1)
  clear c0
  have c0 : w11.cell? ⟨xb2, 0, none⟩ = some (.slice (some ⟨xb, xo, none⟩) xn xc) := by rw [cell_at T3.out]; rfl
  have e11 : ovF (pieF awM) (pieF awL) 11 = some 121 := by decide +kernel
  have TF := Lib.hid (tforward_F _ _ 11 (by decide) w11 X.out)
  rw [e11] at TF
  clear e11
  go_upto_region 7 with (go_at_call 75; (refine TF.out.mono ?_); rintro e w12 ⟨rfl, hb1⟩; replace T1 := Lib.hid (block_below T1.out hb1); replace G1 := Lib.hid (block_below G1.out hb1); replace V := Lib.hid (V.out.below hb1); replace T3 := Lib.hid (block_below T3.out hb1); replace G2 := Lib.hid (block_below G2.out hb1); replace X := Lib.hid (X.out.below hb1); replace K := Lib.hid (nextB K.out hb1); clear hb1)
  clear c0 TF
  have a0 : w12.cell? ⟨tb, 0, none⟩ = some (.slice (some ⟨vb, vo, none⟩) vn vc) := by rw [cell_at T1.out]; rfl
  obtain ⟨d0, d1⟩ := cells2 (G1.out)
  obtain ⟨g0, g1⟩ := cells2 (G2.out)
  have TS := Lib.hid (fun w h => tsize_F (B := 0) (pieF awL) (.slice (some ⟨vb, vo, none⟩) vn vc) (fun c hc => (aw_far c (by omega)).1) w h)
  rw [show (prs (pieF awL) 256).length = 5 by decide +kernel] at TS
  go_wp2_with (first | (go_at_call 7; (with_reducible refine (BD.out _).mono ?_); rintro e w13 ⟨rfl, hb1⟩; replace T1 := Lib.hid (block_below T1.out hb1); replace G1 := Lib.hid (block_below G1.out hb1); replace V := Lib.hid (V.out.below hb1); replace G2 := Lib.hid (block_below G2.out hb1); replace K := Lib.hid (nextB K.out hb1); clear hb1; clear a0 d0 d1 g0 g1; have a0 := cellsOne T1.out; obtain ⟨d0, d1⟩ := cells2 (G1.out); obtain ⟨g0, g1⟩ := cells2 (G2.out)) | (go_at_call 67; (with_reducible refine (TS.out _ V.out).mono ?_); rintro e w14 ⟨rfl, hb1⟩; replace K := Lib.hid (nextB K.out hb1); clear hb1))
  go_ret
  exact ⟨rfl, K.out⟩
end Go.Proofs.YtffhmjlojmoomaaGreatDoor
