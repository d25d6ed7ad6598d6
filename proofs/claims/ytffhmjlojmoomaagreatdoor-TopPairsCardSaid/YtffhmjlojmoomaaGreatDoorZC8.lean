/- Layer 9 (charset): Decode, walked. | Layer 9 (charset): Encode, walked. -/
import Derived.Test.YtffhmjlojmoomaaGreatDoorZC6

namespace Go.Proofs.YtffhmjlojmoomaaGreatDoor
open Go.RowKit
set_option linter.unusedVariables false
set_option linter.unusedSimpArgs false

/-- what Decode answers -/
def DecSays (C : Cst) (c : Nat) (b t : List UInt8) (cd pl : Int) : Prop := (DecR C c b t ∧ cd = 0 ∧ pl = 0) ∨ ((∀ t', ¬ DecR C c b t') ∧ cd = 2 ∧ (c = 4 → pl = plT (txC C 4) 0 b))
theorem decR_lt {C : Cst} {c : Nat} (h : c < 4) (b t : List UInt8) : DecR C c b t = ∃ ps, decS (chF C c) b = some ps ∧ t = encs ps := by unfold DecR; rw [if_pos h]
theorem decR_two {C : Cst} {c : Nat} (h : ¬ c < 4) (h2 : c < 7) (b t : List UInt8) : DecR C c b t = (decT (txC C c) b = some t) := by unfold DecR; rw [if_neg h, if_pos h2]
theorem decR_eight {C : Cst} (b t : List UInt8) : DecR C 7 b t = (Good b ∧ t = b) := rfl
theorem decR_wide {C : Cst} {c : Nat} (h : c = 8 ∨ c = 9) (b t : List UInt8) : DecR C c b t = ∃ ps, decU (c == 9) b.length b = some ps ∧ t = encs ps := by
  unfold DecR
  rw [if_neg (by omega), if_neg (by omega), if_neg (by omega)]
set_option maxHeartbeats 4000000 in
set_option maxRecDepth 100000 in
theorem cdec_single (C : Cst) (hC : Hid (CstOk C)) (c : Nat) (hc : c < 4) (b : List UInt8) (hb : b.length ≤ 1000000) (w : World) (hT : Hid (Tabs w)) : Calls Tryz.prog 8 #[.int .i64 c, .string ⟨b.toArray⟩] w fun e w' => ∃ (t : List UInt8) (cd pl : Int), e = .returned (.tuple #[.string ⟨t.toArray⟩, .agg #[.int .i64 cd, .int .i64 pl]]) ∧ DecSays C c b t cd pl ∧ Below w.heap.size w w' := by
  have OF := Lib.hid (fun w h => sof_F C hC c hc w h)
  have HN : Hid (∀ k, 256 ≤ k → chF C c k = none) := Lib.hid (fun k hk => chF_none hC.out c k hk)
  have HS : Hid (∀ k p, chF C c k = some p → Sc p) := Lib.hid (fun k p h => chF_sc hC.out c k p h)
  have HSY : Hid (∀ (t : List UInt8) (cd pl : Int), ((∃ ps, decS (chF C c) b = some ps ∧ t = encs ps ∧ cd = 0 ∧ pl = 0) ∨ (decS (chF C c) b = none ∧ t = [] ∧ cd = 2)) → DecSays C c b t cd pl) := Lib.hid (fun t cd pl h => by
    unfold DecSays
    simp only [decR_lt hc]
    rcases h with ⟨ps, h1, h2, h3, h4⟩ | ⟨h1, h2, h3⟩
    · exact .inl ⟨⟨ps, h1, h2⟩, h3, h4⟩
    · exact .inr ⟨(fun t' ⟨ps, g1, g2⟩ => by rw [h1] at g1; cases g1), h3, (fun e => by omega)⟩)
  have SD := Lib.hid (fun v w B h => sdec_any (chF C c) v c b w B h HN HS hb)
  generalize chF C c = f at *
  generalize DecSays C c b = DS at *
  clear HN HS hb
  have F := Lib.hid (at_a0 w #[.int .i64 0, .int .i64 0] 26)
  have K := Lib.hid ((Below.refl w.heap.size w).alloc (Nat.le_refl _) (.cells #[.int .i64 0, .int .i64 0] 26))
  obtain ⟨rb, hrb⟩ : ∃ rb, rb = w.heap.size := ⟨_, rfl⟩
  obtain rfl | rfl | rfl | rfl : c = 0 ∨ c = 1 ∨ c = 2 ∨ c = 3 := by omega
  all_goals
    go_enter Tryz.func8, Tryz.ntmps8
    go_upto_region 1 with (fail)
    generalize w.alloc (.cells #[.int .i64 0, .int .i64 0] 26) = w0 at *; rw [← hrb] at F; rw [← hrb]; have HRB := Lib.hid hrb; clear hrb; have HT0 := Lib.hid (hT.out.below K.out)
    go_upto_region 7 with (go_at_call 17; (refine (OF.out _ HT0).mono ?_); rintro e w1 ⟨v, rfl, hv, hb3⟩; obtain ⟨vb, vo, vn, vc, rfl, -⟩ := hv.view; have HV := Lib.hid hv; clear hv; replace F := Lib.hid (block_below F.out hb3); replace K := Lib.hid (nextB K.out hb3); clear hb3)
    go_wp2_with (go_at_call 23; (refine (SD.out _ _ _ (Lib.hid (HV.out.below ((Below.refl w1.heap.size w1).alloc (Nat.le_refl _) _)))).mono ?_); rintro e w3 ⟨t, cd, pl, rfl, hs, hb3⟩; have HD := Lib.hid hs; clear hs; replace hb3 := nextB ((Below.refl w1.heap.size w1).alloc (Nat.le_refl _) _) hb3; replace F := Lib.hid (block_below F.out hb3); replace K := Lib.hid (nextB K.out hb3); clear hb3; obtain ⟨y0, y1⟩ := cells2 (F.out); obtain ⟨yf0, yf1⟩ := frees2 (F.out))
    (have hw1 : w.heap.size ≤ rb := by have := HRB.out; omega); refine end_tmp_cell (by rfl) rfl (by rfl) (store2 F.out rfl) Tryz.underlying26 rfl (by kernel_rfl) ?_
    exact ⟨t, cd, pl, rfl, HSY.out _ _ _ HD.out, (K.out.setCell hw1 _).setCell hw1 _⟩
set_option maxHeartbeats 4000000 in
set_option maxRecDepth 100000 in
theorem cdec_two (C : Cst) (hC : Hid (CstOk C)) (c : Nat) (hc : c = 4 ∨ c = 5 ∨ c = 6) (b : List UInt8) (hb : b.length ≤ 1000000) (w : World) (hD : Hid (DeB w)) : Calls Tryz.prog 8 #[.int .i64 c, .string ⟨b.toArray⟩] w fun e w' => ∃ (t : List UInt8) (cd pl : Int), e = .returned (.tuple #[.string ⟨t.toArray⟩, .agg #[.int .i64 cd, .int .i64 pl]]) ∧ DecSays C c b t cd pl ∧ Below w.heap.size w w' := by
  have CD := Lib.hid (fun w h => cdec2_any C hC c hc b hb w h)
  have HSY : Hid (∀ (t : List UInt8) (cd pl : Int), ((decT (txC C c) b = some t ∧ cd = 0 ∧ pl = 0) ∨ (decT (txC C c) b = none ∧ t = [] ∧ cd = 2 ∧ pl = plT (txC C c) 0 b)) → DecSays C c b t cd pl) := Lib.hid (fun t cd pl h => by
    unfold DecSays
    simp only [decR_two (C := C) (c := c) (by omega) (by omega)]
    rcases h with ⟨h1, h3, h4⟩ | ⟨h1, h2, h3, h4⟩
    · exact .inl ⟨h1, h3, h4⟩
    · exact .inr ⟨(fun t' g1 => by rw [h1] at g1; cases g1), h3, (fun e => by rw [← e]; exact h4)⟩)
  generalize DecSays C c b = DS at *
  clear hb
  generalize txC C c = tx at *
  have F := Lib.hid (at_a0 w #[.int .i64 0, .int .i64 0] 26)
  have K := Lib.hid ((Below.refl w.heap.size w).alloc (Nat.le_refl _) (.cells #[.int .i64 0, .int .i64 0] 26))
  have HD0 := Lib.hid (hD.out.below K.out)
  obtain ⟨rb, hrb⟩ : ∃ rb, rb = w.heap.size := ⟨_, rfl⟩
  obtain rfl | rfl | rfl := hc
  all_goals
    go_enter Tryz.func8, Tryz.ntmps8
    go_upto_region 1 with (fail)
    generalize w.alloc (.cells #[.int .i64 0, .int .i64 0] 26) = w0 at *
    rw [← hrb] at F
    rw [← hrb]
    have HRB := Lib.hid hrb
    clear hrb
    go_wp2_with (go_at_call 24; (refine (CD.out _ HD0).mono ?_); rintro e w3 ⟨t, cd, pl, rfl, hs, hb3⟩; have HD := Lib.hid hs; clear hs; replace F := Lib.hid (block_below F.out hb3); replace K := Lib.hid (nextB K.out hb3); clear hb3; obtain ⟨y0, y1⟩ := cells2 (F.out); obtain ⟨yf0, yf1⟩ := frees2 (F.out))
    (have hw1 : w.heap.size ≤ rb := by have := HRB.out; omega); refine end_tmp_cell (by rfl) rfl (by rfl) (store2 F.out rfl) Tryz.underlying26 rfl (by kernel_rfl) ?_
    exact ⟨t, cd, pl, rfl, HSY.out _ _ _ HD.out, (K.out.setCell hw1 _).setCell hw1 _⟩
set_option maxHeartbeats 4000000 in
set_option maxRecDepth 100000 in
theorem cdec_wide (C : Cst) (c : Nat) (hc : c = 8 ∨ c = 9) (b : List UInt8) (hb : b.length ≤ 1000000) (w : World) : Calls Tryz.prog 8 #[.int .i64 c, .string ⟨b.toArray⟩] w fun e w' => ∃ (t : List UInt8) (cd pl : Int), e = .returned (.tuple #[.string ⟨t.toArray⟩, .agg #[.int .i64 cd, .int .i64 pl]]) ∧ DecSays C c b t cd pl ∧ Below w.heap.size w w' := by
  have CD := Lib.hid (fun w => wdec_any b (c == 9) hb w)
  have HSY : Hid (∀ (t : List UInt8) (cd pl : Int), ((∃ ps, decU (c == 9) b.length b = some ps ∧ t = encs ps ∧ cd = 0 ∧ pl = 0) ∨ (decU (c == 9) b.length b = none ∧ t = [] ∧ cd = 2)) → DecSays C c b t cd pl) := Lib.hid (fun t cd pl h => by
    unfold DecSays
    simp only [decR_wide hc]
    rcases h with ⟨ps, h1, h2, h3, h4⟩ | ⟨h1, h2, h3⟩
    · exact .inl ⟨⟨ps, h1, h2⟩, h3, h4⟩
    · exact .inr ⟨(fun t' ⟨ps, g1, g2⟩ => by rw [h1] at g1; cases g1), h3, (fun e => by omega)⟩)
  generalize DecSays C c b = DS at *
  clear hb
  have F := Lib.hid (at_a0 w #[.int .i64 0, .int .i64 0] 26)
  have K := Lib.hid ((Below.refl w.heap.size w).alloc (Nat.le_refl _) (.cells #[.int .i64 0, .int .i64 0] 26))
  obtain ⟨rb, hrb⟩ : ∃ rb, rb = w.heap.size := ⟨_, rfl⟩
  obtain rfl | rfl := hc
  all_goals
    go_enter Tryz.func8, Tryz.ntmps8
    go_upto_region 1 with (fail)
    generalize w.alloc (.cells #[.int .i64 0, .int .i64 0] 26) = w0 at *
    rw [← hrb] at F
    rw [← hrb]
    have HRB := Lib.hid hrb
    clear hrb
    go_wp2_with (go_at_call 25; (refine (CD.out _).mono ?_); rintro e w3 ⟨t, cd, pl, rfl, hs, hb3⟩; have HD := Lib.hid hs; clear hs; replace F := Lib.hid (block_below F.out hb3); replace K := Lib.hid (nextB K.out hb3); clear hb3; obtain ⟨y0, y1⟩ := cells2 (F.out); obtain ⟨yf0, yf1⟩ := frees2 (F.out))
    (have hw1 : w.heap.size ≤ rb := by have := HRB.out; omega); refine end_tmp_cell (by rfl) rfl (by rfl) (store2 F.out rfl) Tryz.underlying26 rfl (by kernel_rfl) ?_
    exact ⟨t, cd, pl, rfl, HSY.out _ _ _ HD.out, (K.out.setCell hw1 _).setCell hw1 _⟩
set_option maxHeartbeats 4000000 in
set_option maxRecDepth 100000 in
theorem cdec_eight (C : Cst) (b : List UInt8) (hb : b.length ≤ 1000000) (w : World) (hT : Hid (Tabs w)) : Calls Tryz.prog 8 #[.int .i64 7, .string ⟨b.toArray⟩] w fun e w' => ∃ (t : List UInt8) (cd pl : Int), e = .returned (.tuple #[.string ⟨t.toArray⟩, .agg #[.int .i64 cd, .int .i64 pl]]) ∧ DecSays C 7 b t cd pl ∧ Below w.heap.size w w' := by
  have PC := Lib.hid (fun w h => pcheck_two b (by omega) w h)
  have HSY : Hid (Good b → DecSays C 7 b b 0 0) := Lib.hid (fun h => .inl ⟨⟨h, rfl⟩, rfl, rfl⟩)
  have HSN : Hid (¬ Good b → ∀ t pl, DecSays C 7 b t 2 pl) := Lib.hid (fun h t pl => .inr ⟨fun t' g => h g.1, rfl, fun e => by omega⟩)
  generalize DecSays C 7 b = DS at *
  have F := Lib.hid (at_a0 w #[.int .i64 0, .int .i64 0] 26)
  have K := Lib.hid ((Below.refl w.heap.size w).alloc (Nat.le_refl _) (.cells #[.int .i64 0, .int .i64 0] 26))
  obtain ⟨rb, hrb⟩ : ∃ rb, rb = w.heap.size := ⟨_, rfl⟩
  go_enter Tryz.func8, Tryz.ntmps8
  go_upto_region 1 with (fail)
  generalize w.alloc (.cells #[.int .i64 0, .int .i64 0] 26) = w0 at *; rw [← hrb] at F; rw [← hrb]; have HRB := Lib.hid hrb; clear hrb; have HT0 := Lib.hid (hT.out.below K.out)
  go_upto_region 14 with (go_at_call 21; (with_reducible refine (PC.out _ HT0).mono ?_); rintro e w1 ⟨cd, fa, rfl, hcd, hb3⟩; have HCD := Lib.hid hcd.out; clear hcd; replace F := Lib.hid (block_below F.out hb3); replace K := Lib.hid (nextB K.out hb3); clear hb3)
  have CB := Lib.hid (at_a0 w1 #[.int .i64 cd, .int .i64 fa] 26)
  have hB := (Below.refl w1.heap.size w1).alloc (Nat.le_refl _) (.cells #[.int .i64 cd, .int .i64 fa] 26)
  have hrc : rb < w1.heap.size := (Array.getElem?_eq_some_iff.1 F.out).1
  replace F := Lib.hid (block_below F.out hB)
  replace K := Lib.hid (nextB K.out hB)
  clear hB
  generalize w1.alloc (.cells #[.int .i64 cd, .int .i64 fa] 26) = w2 at *
  generalize w1.heap.size = cb at *
  have BD := Lib.hid (fun w => bad_any cd fa w)
  obtain ⟨y0, y1⟩ := cells2 (CB.out)
  rcases HCD.out with ⟨hgood, rfl, rfl⟩ | ⟨hbad, rfl⟩
  · rw [show ((0 : Int) != 0) = false by rfl] at BD
    have HG := Lib.hid (HSY.out hgood)
    clear HCD PC hgood
    go_wp2_with (go_at_call 7; (with_reducible refine (BD.out _).mono ?_); rintro e w3 ⟨rfl, hb3⟩; replace F := Lib.hid (block_below F.out hb3); replace K := Lib.hid (nextB K.out hb3); clear hb3; clear y0 y1 CB; obtain ⟨y0, y1⟩ := cells2 (F.out); obtain ⟨yf0, yf1⟩ := frees2 (F.out))
    (have hw1 : w.heap.size ≤ rb := by have := HRB.out; omega); refine end_tmp_cell (by rfl) rfl (by rfl) (store2 F.out rfl) Tryz.underlying26 rfl (by kernel_rfl) ?_
    exact ⟨b, 0, 0, rfl, HG.out, (K.out.setCell hw1 _).setCell hw1 _⟩
  · rw [show ((2 : Int) != 0) = true by rfl] at BD
    have HG := Lib.hid (HSN.out hbad)
    clear HCD PC hbad
    go_upto_region 15 with (go_at_call 7; (with_reducible refine (BD.out _).mono ?_); rintro e w3 ⟨rfl, hb3⟩; replace CB := Lib.hid (block_below CB.out hb3); replace F := Lib.hid (block_below F.out hb3); replace K := Lib.hid (nextB K.out hb3); clear hb3; clear y0 y1; obtain ⟨y0, y1⟩ := cells2 (CB.out); obtain ⟨f0, f1⟩ := cells2 (F.out); obtain ⟨ff0, ff1⟩ := frees2 (F.out))
    have cc : w3.cell? ⟨cb, 0, none⟩ = some (.int .i64 2) ∧ w3.cell? ⟨cb, 1, none⟩ = some (.int .i64 fa) := ⟨y0, y1⟩
    have n1 : cb ≠ rb := by omega
    go_region_held3 (fun w' => w'.cell? ⟨cb, 0, none⟩ = some (.int .i64 2) ∧ w'.cell? ⟨cb, 1, none⟩ = some (.int .i64 fa)) (first | exact cc | exact ⟨cell_set_other (cell_set_other y0 n1) n1, cell_set_other (cell_set_other y1 n1) n1⟩ | fail) (fail)
    go_wp2
    (have hw1 : w.heap.size ≤ rb := by have := HRB.out; omega); refine end_tmp_cell (by rfl) rfl (by rfl) (store2 F.out rfl) Tryz.underlying26 rfl (by kernel_rfl) ?_
    exact ⟨[], 2, fa, rfl, HG.out _ _, belowN ((K.out.setCell hw1 _).setCell hw1 _) 1⟩
/-- Decode, in any charset -/
theorem cdec_any (C : Cst) (hC : Hid (CstOk C)) (c : Nat) (hc : c < 10) (b : List UInt8) (hb : b.length ≤ 1000000) (w : World) (hT : Hid (Tabs w)) (hD : Hid (DeB w)) : Calls Tryz.prog 8 #[.int .i64 c, .string ⟨b.toArray⟩] w fun e w' => ∃ (t : List UInt8) (cd pl : Int), e = .returned (.tuple #[.string ⟨t.toArray⟩, .agg #[.int .i64 cd, .int .i64 pl]]) ∧ DecSays C c b t cd pl ∧ Below w.heap.size w w' := by
  by_cases h1 : c < 4
  · exact cdec_single C hC c h1 b hb w hT
  by_cases h2 : c < 7
  · exact cdec_two C hC c (by omega) b hb w hD
  by_cases h3 : c = 7
  · subst h3
    exact cdec_eight C b hb w hT
  · exact cdec_wide C c (by omega) b hb w
end Go.Proofs.YtffhmjlojmoomaaGreatDoor

namespace Go.Proofs.YtffhmjlojmoomaaGreatDoor
open Go.RowKit
set_option linter.unusedVariables false
set_option linter.unusedSimpArgs false

/-- what Encode answers -/
def EncTells (C : Cst) (c : Nat) (t b : List UInt8) (cd pl : Int) : Prop := (EncR C c t b ∧ cd = 0 ∧ pl = 0) ∨ ((∀ b', ¬ EncR C c t b') ∧ (cd = 2 ∨ cd = 6))
theorem encR_bad {C : Cst} {c : Nat} {t : List UInt8} (h : ¬ Good t) (b : List UInt8) : ¬ EncR C c t b := fun ⟨ps, h1, h2, _⟩ => h ⟨ps, h1, h2⟩
theorem encR_none {C : Cst} {c : Nat} {ps : List Nat} (hp : ∀ p ∈ ps, Sc p) (h : encP C c ps = none) (b : List UInt8) : ¬ EncR C c (encs ps) b := fun ⟨qs, h1, h2, h3⟩ => by
  obtain rfl := encs_inj hp h1 h2
  rw [h] at h3
  cases h3
theorem encTells_of {C : Cst} {c : Nat} {t b : List UInt8} {cd pl : Int} (h : (¬ Good t ∧ b = [] ∧ cd = 2) ∨ ∃ ps, (∀ p ∈ ps, Sc p) ∧ t = encs ps ∧ ((encP C c ps = some b ∧ cd = 0 ∧ pl = 0) ∨ (encP C c ps = none ∧ cd = 6))) : EncTells C c t b cd pl := by
  rcases h with ⟨h1, -, h3⟩ | ⟨ps, h1, rfl, ⟨h3, h4, h5⟩ | ⟨h3, h4⟩⟩
  · exact .inr ⟨fun b' => encR_bad h1 b', .inl h3⟩
  · exact .inl ⟨⟨ps, h1, rfl, h3⟩, h4, h5⟩
  · exact .inr ⟨fun b' => encR_none h1 h3 b', .inr h4⟩
theorem encP_lt {C : Cst} {c : Nat} (h : c < 4) (ps : List Nat) : encP C c ps = encS (chF C c) ps := by unfold encP; rw [if_pos h]
theorem encP_two {C : Cst} {c : Nat} (h : c = 4 ∨ c = 5) (ps : List Nat) : encP C c ps = encT (btC C c) ps := by unfold encP; rw [if_neg (by omega), if_pos (by omega)]
theorem encP_six {C : Cst} (ps : List Nat) : encP C 6 ps = encG (bytB C) ps := rfl
theorem encP_eight {C : Cst} (ps : List Nat) : encP C 7 ps = some (encs ps) := rfl
theorem encP_wide {C : Cst} {c : Nat} (h : c = 8 ∨ c = 9) (ps : List Nat) : encP C c ps = some (encU (c == 9) ps) := by unfold encP; rw [if_neg (by omega), if_neg (by omega), if_neg (by omega), if_neg (by omega)]
set_option maxHeartbeats 4000000 in
set_option maxRecDepth 100000 in
theorem cenc_single (C : Cst) (hC : Hid (CstOk C)) (c : Nat) (hc : c < 4) (t : List UInt8) (ht : t.length ≤ 1000000) (w : World) (hT : Hid (Tabs w)) : Calls Tryz.prog 6 #[.int .i64 c, .string ⟨t.toArray⟩] w fun e w' => ∃ (b : List UInt8) (cd pl : Int), e = .returned (.tuple #[.string ⟨b.toArray⟩, .agg #[.int .i64 cd, .int .i64 pl]]) ∧ EncTells C c t b cd pl ∧ Below w.heap.size w w' := by
  have OF := Lib.hid (fun w h => sof_F C hC c hc w h)
  have HN : Hid (∀ k, 256 ≤ k → chF C c k = none) := Lib.hid (fun k hk => chF_none hC.out c k hk)
  have HS : Hid (∀ k p, chF C c k = some p → Sc p) := Lib.hid (fun k p h => chF_sc hC.out c k p h)
  have HSY : Hid (∀ (b : List UInt8) (cd pl : Int), EncSays (chF C c) t b cd pl → EncTells C c t b cd pl) := Lib.hid (fun b cd pl h => by
    refine encTells_of ?_
    simp only [encP_lt hc]
    rcases h with h | ⟨ps, h1, h2, h3 | ⟨h3, h4, h5, -⟩⟩
    · exact .inl h
    · exact .inr ⟨ps, h1, h2, .inl h3⟩
    · exact .inr ⟨ps, h1, h2, .inr ⟨h3, h5⟩⟩)
  have SE := Lib.hid (fun v w B h hT => senc_any (chF C c) v c t w B h HN HS ht hT)
  generalize chF C c = f at *
  generalize EncTells C c t = ET at *
  clear HN HS ht
  have F := Lib.hid (at_a0 w #[.int .i64 0, .int .i64 0] 26)
  have K := Lib.hid ((Below.refl w.heap.size w).alloc (Nat.le_refl _) (.cells #[.int .i64 0, .int .i64 0] 26))
  obtain ⟨rb, hrb⟩ : ∃ rb, rb = w.heap.size := ⟨_, rfl⟩
  obtain rfl | rfl | rfl | rfl : c = 0 ∨ c = 1 ∨ c = 2 ∨ c = 3 := by omega
  all_goals
    go_enter Tryz.func6, Tryz.ntmps6
    go_upto_region 1 with (fail)
    generalize w.alloc (.cells #[.int .i64 0, .int .i64 0] 26) = w0 at *; rw [← hrb] at F; rw [← hrb]; have HRB := Lib.hid hrb; clear hrb; have HT0 := Lib.hid (hT.out.below K.out)
    go_upto_region 7 with (go_at_call 17; (refine (OF.out _ HT0).mono ?_); rintro e w1 ⟨v, rfl, hv, hb3⟩; obtain ⟨vb, vo, vn, vc, rfl, -⟩ := hv.view; have HV := Lib.hid hv; clear hv; replace F := Lib.hid (block_below F.out hb3); replace K := Lib.hid (nextB K.out hb3); clear hb3)
    go_wp2_with (go_at_call 18; (refine (SE.out _ _ _ (Lib.hid (HV.out.below ((Below.refl w1.heap.size w1).alloc (Nat.le_refl _) _))) (Lib.hid (hT.out.below (nextB K.out ((Below.refl w1.heap.size w1).alloc (Nat.le_refl _) _))))).mono ?_); rintro e w3 ⟨t, cd, pl, rfl, hs, hb3⟩; have HD := Lib.hid hs; clear hs; replace hb3 := nextB ((Below.refl w1.heap.size w1).alloc (Nat.le_refl _) _) hb3; replace F := Lib.hid (block_below F.out hb3); replace K := Lib.hid (nextB K.out hb3); clear hb3; obtain ⟨y0, y1⟩ := cells2 (F.out); obtain ⟨yf0, yf1⟩ := frees2 (F.out))
    (have hw1 : w.heap.size ≤ rb := by have := HRB.out; omega); refine end_tmp_cell (by rfl) rfl (by rfl) (store2 F.out rfl) Tryz.underlying26 rfl (by kernel_rfl) ?_
    exact ⟨t, cd, pl, rfl, HSY.out _ _ _ HD.out, (K.out.setCell hw1 _).setCell hw1 _⟩
set_option maxHeartbeats 4000000 in
set_option maxRecDepth 100000 in
theorem cenc_two (C : Cst) (hC : Hid (CstOk C)) (c : Nat) (hc : c = 4 ∨ c = 5) (t : List UInt8) (ht : t.length ≤ 1000000) (w : World) (hT : Hid (Tabs w)) (m : Int) (hm : Hid (Mx m w)) : Calls Tryz.prog 6 #[.int .i64 c, .string ⟨t.toArray⟩] w fun e w' => ∃ (b : List UInt8) (cd pl : Int), e = .returned (.tuple #[.string ⟨b.toArray⟩, .agg #[.int .i64 cd, .int .i64 pl]]) ∧ EncTells C c t b cd pl ∧ Below w.heap.size w w' := by
  have CE := Lib.hid (fun w h1 h2 => cenc2_any C hC c hc t ht w h1 m h2)
  have HSY : Hid (∀ (b : List UInt8) (cd pl : Int), ((¬ Good t ∧ b = [] ∧ cd = 2) ∨ ∃ ps, (∀ p ∈ ps, Sc p) ∧ t = encs ps ∧ ((encT (btC C c) ps = some b ∧ cd = 0 ∧ pl = 0) ∨ (encT (btC C c) ps = none ∧ b = [] ∧ cd = 6))) → EncTells C c t b cd pl) := Lib.hid (fun b cd pl h => by
    refine encTells_of ?_
    simp only [encP_two hc]
    rcases h with h | ⟨ps, h1, h2, h3 | ⟨h3, h4, h5⟩⟩
    · exact .inl h
    · exact .inr ⟨ps, h1, h2, .inl h3⟩
    · exact .inr ⟨ps, h1, h2, .inr ⟨h3, h5⟩⟩)
  generalize EncTells C c t = ET at *
  generalize btC C c = bt at *
  clear ht
  have F := Lib.hid (at_a0 w #[.int .i64 0, .int .i64 0] 26)
  have K := Lib.hid ((Below.refl w.heap.size w).alloc (Nat.le_refl _) (.cells #[.int .i64 0, .int .i64 0] 26))
  have HM0 := Lib.hid (hm.out.below K.out)
  obtain ⟨rb, hrb⟩ : ∃ rb, rb = w.heap.size := ⟨_, rfl⟩
  obtain rfl | rfl := hc
  all_goals
    go_enter Tryz.func6, Tryz.ntmps6
    go_upto_region 1 with (fail)
    generalize w.alloc (.cells #[.int .i64 0, .int .i64 0] 26) = w0 at *; rw [← hrb] at F; rw [← hrb]; have HRB := Lib.hid hrb; clear hrb; have HT0 := Lib.hid (hT.out.below K.out)
    go_wp2_with (go_at_call 19; (refine (CE.out _ HT0 HM0).mono ?_); rintro e w3 ⟨t, cd, pl, rfl, hs, hb3⟩; have HD := Lib.hid hs; clear hs; replace F := Lib.hid (block_below F.out hb3); replace K := Lib.hid (nextB K.out hb3); clear hb3; obtain ⟨y0, y1⟩ := cells2 (F.out); obtain ⟨yf0, yf1⟩ := frees2 (F.out))
    (have hw1 : w.heap.size ≤ rb := by have := HRB.out; omega); refine end_tmp_cell (by rfl) rfl (by rfl) (store2 F.out rfl) Tryz.underlying26 rfl (by kernel_rfl) ?_
    exact ⟨t, cd, pl, rfl, HSY.out _ _ _ HD.out, (K.out.setCell hw1 _).setCell hw1 _⟩
set_option maxHeartbeats 4000000 in
set_option maxRecDepth 100000 in
theorem cenc_six (C : Cst) (hC : Hid (CstOk C)) (t : List UInt8) (ht : t.length ≤ 1000000) (w : World) (hT : Hid (Tabs w)) (m : Int) (hm : Hid (Mx m w)) : Calls Tryz.prog 6 #[.int .i64 6, .string ⟨t.toArray⟩] w fun e w' => ∃ (b : List UInt8) (cd pl : Int), e = .returned (.tuple #[.string ⟨b.toArray⟩, .agg #[.int .i64 cd, .int .i64 pl]]) ∧ EncTells C 6 t b cd pl ∧ Below w.heap.size w w' := by
  have CE := Lib.hid (fun w h1 h2 => cenc5_any C hC t ht w h1 m h2)
  have HSY : Hid (∀ (b : List UInt8) (cd pl : Int), ((¬ Good t ∧ b = [] ∧ cd = 2) ∨ ∃ ps, (∀ p ∈ ps, Sc p) ∧ t = encs ps ∧ ((encG (bytB C) ps = some b ∧ cd = 0 ∧ pl = 0) ∨ (encG (bytB C) ps = none ∧ b = [] ∧ cd = 6))) → EncTells C 6 t b cd pl) := Lib.hid (fun b cd pl h => by
    refine encTells_of ?_
    simp only [encP_six]
    rcases h with h | ⟨ps, h1, h2, h3 | ⟨h3, h4, h5⟩⟩
    · exact .inl h
    · exact .inr ⟨ps, h1, h2, .inl h3⟩
    · exact .inr ⟨ps, h1, h2, .inr ⟨h3, h5⟩⟩)
  generalize EncTells C 6 t = ET at *
  generalize bytB C = bt at *
  clear ht
  have F := Lib.hid (at_a0 w #[.int .i64 0, .int .i64 0] 26)
  have K := Lib.hid ((Below.refl w.heap.size w).alloc (Nat.le_refl _) (.cells #[.int .i64 0, .int .i64 0] 26))
  have HM0 := Lib.hid (hm.out.below K.out)
  obtain ⟨rb, hrb⟩ : ∃ rb, rb = w.heap.size := ⟨_, rfl⟩
  go_enter Tryz.func6, Tryz.ntmps6
  go_upto_region 1 with (fail)
  generalize w.alloc (.cells #[.int .i64 0, .int .i64 0] 26) = w0 at *; rw [← hrb] at F; rw [← hrb]; have HRB := Lib.hid hrb; clear hrb; have HT0 := Lib.hid (hT.out.below K.out)
  go_wp2_with (go_at_call 20; (refine (CE.out _ HT0 HM0).mono ?_); rintro e w3 ⟨t, cd, pl, rfl, hs, hb3⟩; have HD := Lib.hid hs; clear hs; replace F := Lib.hid (block_below F.out hb3); replace K := Lib.hid (nextB K.out hb3); clear hb3; obtain ⟨y0, y1⟩ := cells2 (F.out); obtain ⟨yf0, yf1⟩ := frees2 (F.out))
  (have hw1 : w.heap.size ≤ rb := by have := HRB.out; omega); refine end_tmp_cell (by rfl) rfl (by rfl) (store2 F.out rfl) Tryz.underlying26 rfl (by kernel_rfl) ?_
  exact ⟨t, cd, pl, rfl, HSY.out _ _ _ HD.out, (K.out.setCell hw1 _).setCell hw1 _⟩
set_option maxHeartbeats 4000000 in
set_option maxRecDepth 100000 in
theorem cenc_wide (C : Cst) (c : Nat) (hc : c = 8 ∨ c = 9) (t : List UInt8) (ht : t.length ≤ 1000000) (w : World) (hT : Hid (Tabs w)) : Calls Tryz.prog 6 #[.int .i64 c, .string ⟨t.toArray⟩] w fun e w' => ∃ (b : List UInt8) (cd pl : Int), e = .returned (.tuple #[.string ⟨b.toArray⟩, .agg #[.int .i64 cd, .int .i64 pl]]) ∧ EncTells C c t b cd pl ∧ Below w.heap.size w w' := by
  have CE := Lib.hid (fun w h => wenc_any t (c == 9) ht w h)
  have HSY : Hid (∀ (b : List UInt8) (cd pl : Int), ((¬ Good t ∧ b = [] ∧ cd = 2) ∨ ∃ ps, (∀ p ∈ ps, Sc p) ∧ t = encs ps ∧ b = encU (c == 9) ps ∧ cd = 0 ∧ pl = 0) → EncTells C c t b cd pl) := Lib.hid (fun b cd pl h => by
    refine encTells_of ?_
    simp only [encP_wide hc]
    rcases h with h | ⟨ps, h1, h2, h3, h4⟩
    · exact .inl h
    · exact .inr ⟨ps, h1, h2, .inl ⟨by rw [h3], h4⟩⟩)
  generalize EncTells C c t = ET at *
  clear ht
  have F := Lib.hid (at_a0 w #[.int .i64 0, .int .i64 0] 26)
  have K := Lib.hid ((Below.refl w.heap.size w).alloc (Nat.le_refl _) (.cells #[.int .i64 0, .int .i64 0] 26))
  obtain ⟨rb, hrb⟩ : ∃ rb, rb = w.heap.size := ⟨_, rfl⟩
  obtain rfl | rfl := hc
  all_goals
    go_enter Tryz.func6, Tryz.ntmps6
    go_upto_region 1 with (fail)
    generalize w.alloc (.cells #[.int .i64 0, .int .i64 0] 26) = w0 at *; rw [← hrb] at F; rw [← hrb]; have HRB := Lib.hid hrb; clear hrb; have HT0 := Lib.hid (hT.out.below K.out)
    go_wp2_with (go_at_call 22; (refine (CE.out _ HT0).mono ?_); rintro e w3 ⟨t, cd, pl, rfl, hs, hb3⟩; have HD := Lib.hid hs; clear hs; replace F := Lib.hid (block_below F.out hb3); replace K := Lib.hid (nextB K.out hb3); clear hb3; obtain ⟨y0, y1⟩ := cells2 (F.out); obtain ⟨yf0, yf1⟩ := frees2 (F.out))
    (have hw1 : w.heap.size ≤ rb := by have := HRB.out; omega); refine end_tmp_cell (by rfl) rfl (by rfl) (store2 F.out rfl) Tryz.underlying26 rfl (by kernel_rfl) ?_
    exact ⟨t, cd, pl, rfl, HSY.out _ _ _ HD.out, (K.out.setCell hw1 _).setCell hw1 _⟩
set_option maxHeartbeats 4000000 in
set_option maxRecDepth 100000 in
theorem cenc_eight (C : Cst) (b : List UInt8) (hb : b.length ≤ 1000000) (w : World) (hT : Hid (Tabs w)) : Calls Tryz.prog 6 #[.int .i64 7, .string ⟨b.toArray⟩] w fun e w' => ∃ (t : List UInt8) (cd pl : Int), e = .returned (.tuple #[.string ⟨t.toArray⟩, .agg #[.int .i64 cd, .int .i64 pl]]) ∧ EncTells C 7 b t cd pl ∧ Below w.heap.size w w' := by
  have PC := Lib.hid (fun w h => pcheck_two b (by omega) w h)
  have HSY : Hid (Good b → EncTells C 7 b b 0 0) := Lib.hid (fun ⟨ps, h1, h2⟩ => .inl ⟨⟨ps, h1, h2, by rw [h2]; rfl⟩, rfl, rfl⟩)
  have HSN : Hid (¬ Good b → ∀ t pl, EncTells C 7 b t 2 pl) := Lib.hid (fun h t pl => .inr ⟨fun t' => encR_bad h t', .inl rfl⟩)
  generalize EncTells C 7 b = DS at *
  have F := Lib.hid (at_a0 w #[.int .i64 0, .int .i64 0] 26)
  have K := Lib.hid ((Below.refl w.heap.size w).alloc (Nat.le_refl _) (.cells #[.int .i64 0, .int .i64 0] 26))
  obtain ⟨rb, hrb⟩ : ∃ rb, rb = w.heap.size := ⟨_, rfl⟩
  go_enter Tryz.func6, Tryz.ntmps6
  go_upto_region 1 with (fail)
  generalize w.alloc (.cells #[.int .i64 0, .int .i64 0] 26) = w0 at *; rw [← hrb] at F; rw [← hrb]; have HRB := Lib.hid hrb; clear hrb; have HT0 := Lib.hid (hT.out.below K.out)
  go_upto_region 15 with (go_at_call 21; (with_reducible refine (PC.out _ HT0).mono ?_); rintro e w1 ⟨cd, fa, rfl, hcd, hb3⟩; have HCD := Lib.hid hcd.out; clear hcd; replace F := Lib.hid (block_below F.out hb3); replace K := Lib.hid (nextB K.out hb3); clear hb3)
  have CB := Lib.hid (at_a0 w1 #[.int .i64 cd, .int .i64 fa] 26)
  have hB := (Below.refl w1.heap.size w1).alloc (Nat.le_refl _) (.cells #[.int .i64 cd, .int .i64 fa] 26)
  have hrc : rb < w1.heap.size := (Array.getElem?_eq_some_iff.1 F.out).1
  replace F := Lib.hid (block_below F.out hB)
  replace K := Lib.hid (nextB K.out hB)
  clear hB
  generalize w1.alloc (.cells #[.int .i64 cd, .int .i64 fa] 26) = w2 at *
  generalize w1.heap.size = cb at *
  have BD := Lib.hid (fun w => bad_any cd fa w)
  obtain ⟨y0, y1⟩ := cells2 (CB.out)
  rcases HCD.out with ⟨hgood, rfl, rfl⟩ | ⟨hbad, rfl⟩
  · rw [show ((0 : Int) != 0) = false by rfl] at BD
    have HG := Lib.hid (HSY.out hgood)
    clear HCD PC hgood
    go_wp2_with (go_at_call 7; (with_reducible refine (BD.out _).mono ?_); rintro e w3 ⟨rfl, hb3⟩; replace F := Lib.hid (block_below F.out hb3); replace K := Lib.hid (nextB K.out hb3); clear hb3; clear y0 y1 CB; obtain ⟨y0, y1⟩ := cells2 (F.out); obtain ⟨yf0, yf1⟩ := frees2 (F.out))
    (have hw1 : w.heap.size ≤ rb := by have := HRB.out; omega); refine end_tmp_cell (by rfl) rfl (by rfl) (store2 F.out rfl) Tryz.underlying26 rfl (by kernel_rfl) ?_
    exact ⟨b, 0, 0, rfl, HG.out, (K.out.setCell hw1 _).setCell hw1 _⟩
  · rw [show ((2 : Int) != 0) = true by rfl] at BD
    have HG := Lib.hid (HSN.out hbad)
    clear HCD PC hbad
    go_upto_region 16 with (go_at_call 7; (with_reducible refine (BD.out _).mono ?_); rintro e w3 ⟨rfl, hb3⟩; replace CB := Lib.hid (block_below CB.out hb3); replace F := Lib.hid (block_below F.out hb3); replace K := Lib.hid (nextB K.out hb3); clear hb3; clear y0 y1; obtain ⟨y0, y1⟩ := cells2 (CB.out); obtain ⟨f0, f1⟩ := cells2 (F.out); obtain ⟨ff0, ff1⟩ := frees2 (F.out))
    have cc : w3.cell? ⟨cb, 0, none⟩ = some (.int .i64 2) ∧ w3.cell? ⟨cb, 1, none⟩ = some (.int .i64 fa) := ⟨y0, y1⟩
    have n1 : cb ≠ rb := by omega
    go_region_held3 (fun w' => w'.cell? ⟨cb, 0, none⟩ = some (.int .i64 2) ∧ w'.cell? ⟨cb, 1, none⟩ = some (.int .i64 fa)) (first | exact cc | exact ⟨cell_set_other (cell_set_other y0 n1) n1, cell_set_other (cell_set_other y1 n1) n1⟩ | fail) (fail)
    go_wp2
    (have hw1 : w.heap.size ≤ rb := by have := HRB.out; omega); refine end_tmp_cell (by rfl) rfl (by rfl) (store2 F.out rfl) Tryz.underlying26 rfl (by kernel_rfl) ?_
    exact ⟨[], 2, fa, rfl, HG.out _ _, belowN ((K.out.setCell hw1 _).setCell hw1 _) 1⟩
/-- Encode, in any charset -/
theorem cenc_any (C : Cst) (hC : Hid (CstOk C)) (c : Nat) (hc : c < 10) (t : List UInt8) (ht : t.length ≤ 1000000) (w : World) (hT : Hid (Tabs w)) (m : Int) (hm : Hid (Mx m w)) : Calls Tryz.prog 6 #[.int .i64 c, .string ⟨t.toArray⟩] w fun e w' => ∃ (b : List UInt8) (cd pl : Int), e = .returned (.tuple #[.string ⟨b.toArray⟩, .agg #[.int .i64 cd, .int .i64 pl]]) ∧ EncTells C c t b cd pl ∧ Below w.heap.size w w' := by
  by_cases h1 : c < 4
  · exact cenc_single C hC c h1 t ht w hT
  by_cases h2 : c < 6
  · exact cenc_two C hC c (by omega) t ht w hT m hm
  by_cases h3 : c = 6
  · subst h3
    exact cenc_six C hC t ht w hT m hm
  by_cases h4 : c = 7
  · subst h4
    exact cenc_eight C t ht w hT
  · exact cenc_wide C c (by omega) t ht w hT
end Go.Proofs.YtffhmjlojmoomaaGreatDoor
