/- Layer 5 (single): KOI8-U, and which set is which, walked. | Layer 5 (single): which set is which, walked. | Layer 5 (single): Decode, walked. | Layer 4 (run): Forward, Reverse, Size, Over, New of a table that answers a function. -/
import Derived.Test.YtffhmjlojmoomaaGreatDoorZU28
import Derived.Deep.QuietTactic

namespace Go.Proofs.YtffhmjlojmoomaaGreatDoor
open Go.RowKit
set_option linter.unusedVariables false
set_option linter.unusedSimpArgs false

set_option maxHeartbeats 4000000 in
set_option maxRecDepth 100000 in
theorem ukrainian_F (C : Cst) (hC : Hid (CstOk C)) (w : World) (hT : Hid (Tabs w)) :
    Calls Tryz.prog 44 #[] w fun e w' => ∃ v, e = .returned (.agg #[v]) ∧ TabF w' w.heap.size v (ovF (pieF ukrP) (pieF (koiP C))) ∧ Below w.heap.size w w' := by
  have X := Lib.hid (at_a0 w #[.slice none 0 0] 43)
  have K := Lib.hid ((Below.refl w.heap.size w).alloc (Nat.le_refl _) (.cells #[.slice none 0 0] 43))
  have S0 : Hid (∀ w, Calls Tryz.prog 42 #[.int .i64 164, .int .i32 1108, .int .i64 1] w fun e w' => e = .returned (.agg #[.int .i64 164, .int .i32 1108, .int .i64 1, .string ⟨#[]⟩]) ∧ Below w.heap.size w w') := Lib.hid (fun w => seq_any 164 1108 1 w)
  have S1 : Hid (∀ w, Calls Tryz.prog 42 #[.int .i64 166, .int .i32 1110, .int .i64 2] w fun e w' => e = .returned (.agg #[.int .i64 166, .int .i32 1110, .int .i64 2, .string ⟨#[]⟩]) ∧ Below w.heap.size w w') := Lib.hid (fun w => seq_any 166 1110 2 w)
  have S2 : Hid (∀ w, Calls Tryz.prog 42 #[.int .i64 173, .int .i32 1169, .int .i64 1] w fun e w' => e = .returned (.agg #[.int .i64 173, .int .i32 1169, .int .i64 1, .string ⟨#[]⟩]) ∧ Below w.heap.size w w') := Lib.hid (fun w => seq_any 173 1169 1 w)
  have S3 : Hid (∀ w, Calls Tryz.prog 42 #[.int .i64 180, .int .i32 1028, .int .i64 1] w fun e w' => e = .returned (.agg #[.int .i64 180, .int .i32 1028, .int .i64 1, .string ⟨#[]⟩]) ∧ Below w.heap.size w w') := Lib.hid (fun w => seq_any 180 1028 1 w)
  have S4 : Hid (∀ w, Calls Tryz.prog 42 #[.int .i64 182, .int .i32 1030, .int .i64 2] w fun e w' => e = .returned (.agg #[.int .i64 182, .int .i32 1030, .int .i64 2, .string ⟨#[]⟩]) ∧ Below w.heap.size w w') := Lib.hid (fun w => seq_any 182 1030 2 w)
  have S5 : Hid (∀ w, Calls Tryz.prog 42 #[.int .i64 189, .int .i32 1168, .int .i64 1] w fun e w' => e = .returned (.agg #[.int .i64 189, .int .i32 1168, .int .i64 1, .string ⟨#[]⟩]) ∧ Below w.heap.size w w') := Lib.hid (fun w => seq_any 189 1168 1 w)
  have RU := Lib.hid (fun w h => russian_F C hC w h)
  go_enter Tryz.func44, Tryz.ntmps44
  go_upto_region 1 with (fail)
  obtain ⟨rb, hrb⟩ : ∃ rb, rb = w.heap.size := ⟨_, rfl⟩
  have hz0 : rb < (w.alloc (.cells #[.slice none 0 0] 43)).heap.size := by rw [hrb]; simp
  generalize w.alloc (.cells #[.slice none 0 0] 43) = w0 at *
  rw [← hrb] at X
  rw [← hrb]
  have HRB := Lib.hid hrb
  clear hrb
  go_upto_region 2 with (first | (go_at_call 42; (first | (with_reducible refine (S0.out _).mono ?_) | (with_reducible refine (S1.out _).mono ?_) | (with_reducible refine (S2.out _).mono ?_) | (with_reducible refine (S3.out _).mono ?_) | (with_reducible refine (S4.out _).mono ?_) | (with_reducible refine (S5.out _).mono ?_)); rintro e w3 ⟨rfl, hb1⟩; replace X := Lib.hid (block_below X.out hb1); replace K := Lib.hid (nextB K.out hb1); replace hz0 := Nat.lt_of_lt_of_le hz0 hb1.size; clear hb1) | (go_at_call 41; have hal := (Below.refl w3.heap.size w3).alloc (Nat.le_refl _) (.cells #[.int .i64 164, .int .i32 1108, .int .i64 1, .string ⟨#[]⟩, .int .i64 166, .int .i32 1110, .int .i64 2, .string ⟨#[]⟩, .int .i64 173, .int .i32 1169, .int .i64 1, .string ⟨#[]⟩, .int .i64 180, .int .i32 1028, .int .i64 1, .string ⟨#[]⟩, .int .i64 182, .int .i32 1030, .int .i64 2, .string ⟨#[]⟩, .int .i64 189, .int .i32 1168, .int .i64 1, .string ⟨#[]⟩] 69); refine (stable_F (some ⟨w3.heap.size, 0, none⟩) 6 6 ukrP _ (Lib.hid (recsAt_new w3 (ukrP.map pieR) 4 (pieR_len _) _ _ rfl 6 rfl)) (by omega) (by omega) (by omega) (Lib.hid ukrP_ok.1) (Lib.hid ukrP_ok.2) (Lib.hid (hT.out.below (nextB K.out hal)))).mono ?_; rintro e w5 ⟨v, rfl, hv, hb5⟩; have hz5 : rb < w5.heap.size := (Nat.lt_of_lt_of_le hz0 (nextB hal hb5).size); obtain ⟨vb, vo, vn, vc, rfl, -⟩ := hv.view; have HV := Lib.hid (hv.base (show rb + 1 ≤ _ by simp; omega)); replace X := Lib.hid (block_below X.out (nextB hal hb5)); replace K := Lib.hid (nextB K.out (nextB hal hb5)); clear hal hv hb5))
  have Y := Lib.hid (at_a0 w5 #[.slice (some ⟨vb, vo, none⟩) vn vc] 43)
  have hB := (Below.refl w5.heap.size w5).alloc (Nat.le_refl _) (.cells #[.slice (some ⟨vb, vo, none⟩) vn vc] 43)
  replace X := Lib.hid (block_below X.out hB)
  replace K := Lib.hid (nextB K.out hB)
  replace HV := Lib.hid (HV.out.below hB)
  have hz6 : rb < (w5.alloc (.cells #[.slice (some ⟨vb, vo, none⟩) vn vc] 43)).heap.size := by simp; omega
  clear hB
  generalize w5.alloc (.cells #[.slice (some ⟨vb, vo, none⟩) vn vc] 43) = w6 at *
  generalize w5.heap.size = ob at *
  have cc : w6.cell? ⟨ob, 0, none⟩ = some (.slice (some ⟨vb, vo, none⟩) vn vc) := by rw [cell_at Y.out]; rfl
  have HT6 := Lib.hid (hT.out.below K.out)
  go_region_held3 (fun w' => w'.cell? ⟨ob, 0, none⟩ = some (.slice (some ⟨vb, vo, none⟩) vn vc)) (first | exact cc | exact x9 _ | exact x8 | exact x7 | fail)
    (first | (go_at_call 43; (refine (RU.out _ (Lib.hid (by exact HT6.out))).mono ?_); rintro e w7 ⟨v2, rfl, hv2, hb7⟩; obtain ⟨ub, uo, un, uc, rfl, -⟩ := hv2.view; have k7 := Lib.hid (drewBu hb7); have x7 : w7.cell? ⟨ob, 0, none⟩ = some (.slice (some ⟨vb, vo, none⟩) vn vc) := (by rw [cell_at (block_below Y.out k7.out)]; rfl); have HV2 := Lib.hid (hv2.base (show rb + 1 ≤ _ by simp; omega)); clear hb7 hv2) | (go_at_call 73; obtain ⟨SA, a1, a2, a3, a4, a5, a6⟩ := HV.out; obtain ⟨SB, b1, b2, b3, b4, b5, b6⟩ := HV2.out; have hz7 : rb + 1 ≤ w7.heap.size := (Nat.le_trans (show rb + 1 ≤ w6.heap.size by omega) k7.out.size); refine (over_any SA SB _ _ w7 (Lib.hid a2) (Lib.hid b2) (Lib.hid a3) (Lib.hid b3) a4 b4 a5 b5 (rb + 1) hz7 (Lib.hid (a1.below k7.out)) (Lib.hid b1)).mono ?_; rintro e w8 ⟨v3, S3, rfl, s1, s2, s3, s4, s5, hb8⟩; have H3 : Hid (TabF w8 (rb + 1) v3 (ovF (pieF ukrP) (pieF (koiP C)))) := Lib.hid ⟨S3, s1, s2, s3, s5, (by have := tab_len S3 0 s2 s3 (fun r hr => Nat.zero_le _) (by omega); omega), fun c => (by rw [s4 c, a6 c]; unfold ovF; rcases pieF ukrP c with _ | p; exact b6 c; rfl)⟩; obtain ⟨vb3, vo3, vn3, vc3, rfl, -⟩ := H3.out.view; replace X := Lib.hid (block_below X.out (nextB k7.out hb8)); replace K := Lib.hid (nextB K.out (nextB k7.out hb8)); have x8 : w8.cell? ⟨ob, 0, none⟩ = some (.slice (some ⟨vb, vo, none⟩) vn vc) := (by rw [cell_at (block_below Y.out (nextB k7.out hb8))]; rfl); have x9 : ∀ v, (w8.setCell ⟨rb, 0, none⟩ v).cell? ⟨ob, 0, none⟩ = some (.slice (some ⟨vb, vo, none⟩) vn vc) := (fun v => (World.cell?_of_block (heap_set_other (b := ob) v (by omega))).trans x8); clear s1 s2 s3 s4 s5 a1 a2 a3 a4 a5 a6 b1 b2 b3 b4 b5 b6 hb8; have x0 : w8.cell? ⟨rb, 0, none⟩ = some (.slice none 0 0) := (by rw [cell_at X.out]; rfl); have xf0 : w8.frozen? ⟨rb, 0, none⟩ = false := free_at X.out))
  go_wp2
  refine end_cell (by rfl) rfl (by rfl) (setCell_at (j := 0) (v := .slice (some ⟨vb3, vo3, none⟩) vn3 vc3) X.out) Tryz.underlying43 rfl (by kernel_rfl) ?_
  exact ⟨_, rfl, (H3.out.setOlder (by omega)).base (by have := HRB.out; omega), K.out.setCell (show w.heap.size ≤ rb by have := HRB.out; omega) _⟩
end Go.Proofs.YtffhmjlojmoomaaGreatDoor

namespace Go.Proofs.YtffhmjlojmoomaaGreatDoor
open Go.RowKit
set_option linter.unusedVariables false
set_option linter.unusedSimpArgs false

/-- the signs of a set, by its number -/
def chF (C : Cst) : Nat → Nat → Option Nat
  | 0 => pieF latP
  | 1 => pieF (koiP C)
  | 2 => ovF (pieF ukrP) (pieF (koiP C))
  | _ => pieF (altP C)
set_option maxHeartbeats 4000000 in
set_option maxRecDepth 100000 in
theorem sof_F (C : Cst) (hC : Hid (CstOk C)) (c : Nat) (hc : c < 4) (w : World) (hT : Hid (Tabs w)) :
    Calls Tryz.prog 17 #[.int .i64 c] w fun e w' => ∃ v, e = .returned (.tuple #[.agg #[v, .int .i64 c], .bool true]) ∧ TabF w' w.heap.size v (chF C c) ∧ Below w.heap.size w w' := by
  have X := Lib.hid (at_a0 w #[.slice none 0 0, .int .i64 0] 45)
  have K := Lib.hid ((Below.refl w.heap.size w).alloc (Nat.le_refl _) (.cells #[.slice none 0 0, .int .i64 0] 45))
  have S0 : Hid (∀ w, Calls Tryz.prog 42 #[.int .i64 0, .int .i32 0, .int .i64 256] w fun e w' => e = .returned (.agg #[.int .i64 0, .int .i32 0, .int .i64 256, .string ⟨#[]⟩]) ∧ Below w.heap.size w w') := Lib.hid (fun w => seq_any 0 0 256 w)
  have RU := Lib.hid (fun w h => russian_F C hC w h)
  have UK := Lib.hid (fun w h => ukrainian_F C hC w h)
  have AL := Lib.hid (fun w h => alternative_F C hC w h)
  obtain rfl | rfl | rfl | rfl : c = 0 ∨ c = 1 ∨ c = 2 ∨ c = 3 := by omega
  · go_enter Tryz.func17, Tryz.ntmps17
    go_upto_region 1 with (fail)
    obtain ⟨rb, hrb⟩ : ∃ rb, rb = w.heap.size := ⟨_, rfl⟩; have hz0 : rb < (w.alloc (.cells #[.slice none 0 0, .int .i64 0] 45)).heap.size := (by rw [hrb]; simp); generalize w.alloc (.cells #[.slice none 0 0, .int .i64 0] 45) = w0 at *; rw [← hrb] at X; rw [← hrb]; have HRB := Lib.hid hrb; clear hrb
    go_wp2_with (first | (go_at_call 42; (with_reducible refine (S0.out _).mono ?_); rintro e w3 ⟨rfl, hb1⟩; replace X := Lib.hid (block_below X.out hb1); replace K := Lib.hid (nextB K.out hb1); replace hz0 := Nat.lt_of_lt_of_le hz0 hb1.size; clear hb1) | (go_at_call 41; have hal := (Below.refl w3.heap.size w3).alloc (Nat.le_refl _) (.cells #[.int .i64 0, .int .i32 0, .int .i64 256, .string ⟨#[]⟩] 69); refine (stable_F (some ⟨w3.heap.size, 0, none⟩) 1 1 latP _ (Lib.hid (recsAt_new w3 (latP.map pieR) 4 (pieR_len _) _ _ rfl 1 rfl)) (by omega) (by omega) (by omega) (Lib.hid latP_ok.1) (Lib.hid latP_ok.2) (Lib.hid (hT.out.below (nextB K.out hal)))).mono ?_; rintro e w5 ⟨v, rfl, hv, hb5⟩; replace hb5 := nextB hal hb5; obtain ⟨vb, vo, vn, vc, rfl, -⟩ := hv.view; have HV := Lib.hid (hv.base (show rb + 1 ≤ _ by (try simp); omega)); replace X := Lib.hid (block_below X.out hb5); replace K := Lib.hid (nextB K.out hb5); clear hv hb5; obtain ⟨x0, x1⟩ := cells2 (X.out); obtain ⟨xf0, xf1⟩ := frees2 (X.out)))
    refine end_cell_tmp (by rfl) rfl (by rfl) (store2 X.out rfl) Tryz.underlying45 rfl (by kernel_rfl) ?_; exact ⟨_, rfl, ((HV.out.setOlder (by omega)).setOlder (by omega)).base (by have := HRB.out; omega), (K.out.setCell (show w.heap.size ≤ rb by have := HRB.out; omega) _).setCell (show w.heap.size ≤ rb by have := HRB.out; omega) _⟩
  · go_enter Tryz.func17, Tryz.ntmps17
    go_upto_region 1 with (fail)
    obtain ⟨rb, hrb⟩ : ∃ rb, rb = w.heap.size := ⟨_, rfl⟩; have hz0 : rb < (w.alloc (.cells #[.slice none 0 0, .int .i64 0] 45)).heap.size := (by rw [hrb]; simp); generalize w.alloc (.cells #[.slice none 0 0, .int .i64 0] 45) = w0 at *; rw [← hrb] at X; rw [← hrb]; have HRB := Lib.hid hrb; clear hrb
    go_wp2_with (go_at_call 43; (with_reducible refine (RU.out _ (Lib.hid (hT.out.below K.out))).mono ?_); rintro e w5 ⟨v, rfl, hv, hb5⟩; obtain ⟨vb, vo, vn, vc, rfl, -⟩ := hv.view; have HV := Lib.hid (hv.base (show rb + 1 ≤ _ by (try simp); omega)); replace X := Lib.hid (block_below X.out hb5); replace K := Lib.hid (nextB K.out hb5); clear hv hb5; obtain ⟨x0, x1⟩ := cells2 (X.out); obtain ⟨xf0, xf1⟩ := frees2 (X.out))
    refine end_cell_tmp (by rfl) rfl (by rfl) (store2 X.out rfl) Tryz.underlying45 rfl (by kernel_rfl) ?_; exact ⟨_, rfl, ((HV.out.setOlder (by omega)).setOlder (by omega)).base (by have := HRB.out; omega), (K.out.setCell (show w.heap.size ≤ rb by have := HRB.out; omega) _).setCell (show w.heap.size ≤ rb by have := HRB.out; omega) _⟩
  · go_enter Tryz.func17, Tryz.ntmps17
    go_upto_region 1 with (fail)
    obtain ⟨rb, hrb⟩ : ∃ rb, rb = w.heap.size := ⟨_, rfl⟩; have hz0 : rb < (w.alloc (.cells #[.slice none 0 0, .int .i64 0] 45)).heap.size := (by rw [hrb]; simp); generalize w.alloc (.cells #[.slice none 0 0, .int .i64 0] 45) = w0 at *; rw [← hrb] at X; rw [← hrb]; have HRB := Lib.hid hrb; clear hrb
    go_wp2_with (go_at_call 44; (with_reducible refine (UK.out _ (Lib.hid (hT.out.below K.out))).mono ?_); rintro e w5 ⟨v, rfl, hv, hb5⟩; obtain ⟨vb, vo, vn, vc, rfl, -⟩ := hv.view; have HV := Lib.hid (hv.base (show rb + 1 ≤ _ by (try simp); omega)); replace X := Lib.hid (block_below X.out hb5); replace K := Lib.hid (nextB K.out hb5); clear hv hb5; obtain ⟨x0, x1⟩ := cells2 (X.out); obtain ⟨xf0, xf1⟩ := frees2 (X.out))
    refine end_cell_tmp (by rfl) rfl (by rfl) (store2 X.out rfl) Tryz.underlying45 rfl (by kernel_rfl) ?_; exact ⟨_, rfl, ((HV.out.setOlder (by omega)).setOlder (by omega)).base (by have := HRB.out; omega), (K.out.setCell (show w.heap.size ≤ rb by have := HRB.out; omega) _).setCell (show w.heap.size ≤ rb by have := HRB.out; omega) _⟩
  · go_enter Tryz.func17, Tryz.ntmps17
    go_upto_region 1 with (fail)
    obtain ⟨rb, hrb⟩ : ∃ rb, rb = w.heap.size := ⟨_, rfl⟩; have hz0 : rb < (w.alloc (.cells #[.slice none 0 0, .int .i64 0] 45)).heap.size := (by rw [hrb]; simp); generalize w.alloc (.cells #[.slice none 0 0, .int .i64 0] 45) = w0 at *; rw [← hrb] at X; rw [← hrb]; have HRB := Lib.hid hrb; clear hrb
    go_wp2_with (go_at_call 45; (with_reducible refine (AL.out _ (Lib.hid (hT.out.below K.out))).mono ?_); rintro e w5 ⟨v, rfl, hv, hb5⟩; obtain ⟨vb, vo, vn, vc, rfl, -⟩ := hv.view; have HV := Lib.hid (hv.base (show rb + 1 ≤ _ by (try simp); omega)); replace X := Lib.hid (block_below X.out hb5); replace K := Lib.hid (nextB K.out hb5); clear hv hb5; obtain ⟨x0, x1⟩ := cells2 (X.out); obtain ⟨xf0, xf1⟩ := frees2 (X.out))
    refine end_cell_tmp (by rfl) rfl (by rfl) (store2 X.out rfl) Tryz.underlying45 rfl (by kernel_rfl) ?_; exact ⟨_, rfl, ((HV.out.setOlder (by omega)).setOlder (by omega)).base (by have := HRB.out; omega), (K.out.setCell (show w.heap.size ≤ rb by have := HRB.out; omega) _).setCell (show w.heap.size ≤ rb by have := HRB.out; omega) _⟩
end Go.Proofs.YtffhmjlojmoomaaGreatDoor

namespace Go.Proofs.YtffhmjlojmoomaaGreatDoor
open Go.RowKit
set_option linter.unusedVariables false
set_option linter.unusedSimpArgs false

theorem alloc4 (w : World) (a b c d : Obj) : ((((w.alloc a).alloc b).alloc c).alloc d).heap[w.heap.size]? = some a ∧ ((((w.alloc a).alloc b).alloc c).alloc d).heap[w.heap.size + 1]? = some b ∧ ((((w.alloc a).alloc b).alloc c).alloc d).heap[w.heap.size + 2]? = some c ∧ ((((w.alloc a).alloc b).alloc c).alloc d).heap[w.heap.size + 3]? = some d ∧ ((((w.alloc a).alloc b).alloc c).alloc d).heap.size = w.heap.size + 4 ∧ Below w.heap.size w ((((w.alloc a).alloc b).alloc c).alloc d) := by
  refine ⟨?_, ?_, ?_, ?_, by simp, ((((Below.refl _ _).alloc (Nat.le_refl _) a).alloc (by simp) b).alloc (by simp; omega) c).alloc (by simp; omega) d⟩
  · rw [heap_alloc_old _ _ (by simp; try omega), heap_alloc_old _ _ (by simp; try omega), heap_alloc_old _ _ (by simp; try omega)]
    exact heap_alloc_new _ _
  · rw [heap_alloc_old _ _ (by simp; try omega), heap_alloc_old _ _ (by simp; try omega)]
    have := heap_alloc_new (w.alloc a) b
    simpa using this
  · rw [heap_alloc_old _ _ (by simp; try omega)]
    have := heap_alloc_new ((w.alloc a).alloc b) c
    simpa using this
  · have := heap_alloc_new (((w.alloc a).alloc b).alloc c) d
    simpa using this
theorem tabSize_dis : ∀ (S : List Rv) (a : Nat), TabDis S → RowsOk S → (∀ r ∈ S, a ≤ r.fr) → a ≤ 1048576 → tabSize S + a ≤ 1048576
  | [], a, _, _, _, ha => by simpa [tabSize] using ha
  | r :: S, a, hd, hok, hr, ha => by
    obtain ⟨h1, h2⟩ := List.pairwise_cons.1 hd
    have h3 := hok r List.mem_cons_self
    have h4 := hr r List.mem_cons_self
    have := tabSize_dis S (r.fr + r.ct) h2 (fun q hq => hok q (List.mem_cons_of_mem _ hq)) (fun q hq => h1 q hq) h3.2.2
    unfold tabSize at this ⊢
    rw [List.map_cons, List.sum_cons]
    omega
theorem prs_len (f : Nat → Option Nat) : ∀ n, (prs f n).length ≤ n
  | 0 => by simp [prs, prsFrom]
  | n + 1 => by
    have := prs_len f n
    rw [prs_succ, List.length_append]
    rcases f n with _ | p <;> simp <;> omega
/-- all pairs of a table of bytes -/
theorem tpairs_F {B : Nat} (f : Nat → Option Nat) (v : Value) (w : World) (hF : TabF w B v f) (hf : ∀ c, 256 ≤ c → f c = none) :
    Calls Tryz.prog 29 #[.agg #[v]] w fun e w' => ∃ u, e = .returned u ∧ Recs w' w.heap.size 34 2 u ((prs f 256).map prR) ∧ Below w.heap.size w w' := by
  obtain ⟨S, h1, h2, h3, h4, h5, h6⟩ := hF
  have hz := tabSize_dis S 0 h2 h3 (fun r hr => Nat.zero_le _) (by omega)
  have e : tabPairs S = prs f 256 := by
    rw [tabPairs_from S 0 1048576 h2 (fun r hr => ⟨(h3 r hr).2.1, Nat.zero_le _, by have := (h3 r hr).2.2; omega⟩), prsFrom_cong (g := f) (fun c _ _ => h6 c), show 1048576 = 256 + 1048320 by rfl, prsFrom_app, prsFrom_none f (0 + 256) 1048320 (fun c hc _ => hf c (by omega)), List.append_nil]
    rfl
  rw [← e]
  exact tpairs_any S v w h5 (by omega) (Lib.hid h1.1)
def arrB (f : Nat → Option Nat) : Array Value := ((List.range 256).map (fun i => Value.bool (f i).isSome)).toArray
def arrR (f : Nat → Option Nat) : Array Value := ((List.range 256).map (fun i => Value.int .i32 ((f i).getD 0 : Nat))).toArray
theorem arrB_zero : Tryz.zeroCells87 = arrB (fun _ => none) := by kernel_rfl
theorem arrR_zero : Tryz.zeroCells88 = arrR (fun _ => none) := by kernel_rfl
theorem arrB_get (f : Nat → Option Nat) (c : Nat) (h : c < 256) : (arrB f)[c]? = some (.bool (f c).isSome) := by
  unfold arrB
  rw [List.getElem?_toArray, List.getElem?_map, List.getElem?_range h]
  rfl
theorem arrR_get (f : Nat → Option Nat) (c : Nat) (h : c < 256) : (arrR f)[c]? = some (.int .i32 ((f c).getD 0 : Nat)) := by
  unfold arrR
  rw [List.getElem?_toArray, List.getElem?_map, List.getElem?_range h]
  rfl
theorem arrB_set (f : Nat → Option Nat) (c p : Nat) (h : c < 256) : (arrB f).setIfInBounds c (.bool true) = arrB (fun i => if c = i then some p else f i) := by
  unfold arrB
  rw [List.setIfInBounds_toArray]
  congr 1
  apply List.ext_getElem
  · simp
  · intro i h1 h2
    rw [List.getElem_set]
    simp only [List.getElem_map, List.getElem_range]
    by_cases hi : c = i
    · rw [if_pos hi, if_pos hi]; rfl
    · rw [if_neg hi, if_neg hi]
theorem arrR_set (f : Nat → Option Nat) (c p : Nat) (h : c < 256) : (arrR f).setIfInBounds c (.int .i32 p) = arrR (fun i => if c = i then some p else f i) := by
  unfold arrR
  rw [List.setIfInBounds_toArray]
  congr 1
  apply List.ext_getElem
  · simp
  · intro i h1 h2
    rw [List.getElem_set]
    simp only [List.getElem_map, List.getElem_range]
    by_cases hi : c = i
    · rw [if_pos hi, if_pos hi]; rfl
    · rw [if_neg hi, if_neg hi]
theorem decS_snoc (f : Nat → Option Nat) (x : UInt8) : ∀ l : List UInt8, decS f (l ++ [x]) = match decS f l, f x.toNat with | some ps, some p => some (ps ++ [p]) | _, _ => none
  | [] => by
    show (match f x.toNat, decS f [] with | some p, some ps => some (p :: ps) | _, _ => none) = _
    rcases f x.toNat with _ | p <;> rfl
  | y :: l => by
    have ih := decS_snoc f x l
    show (match f y.toNat, decS f (l ++ [x]) with | some p, some ps => some (p :: ps) | _, _ => none) = (match (match f y.toNat, decS f l with | some p, some ps => some (p :: ps) | _, _ => none), f x.toNat with | some ps, some p => some (ps ++ [p]) | _, _ => none)
    rw [ih]
    rcases f y.toNat with _ | q <;> rcases decS f l with _ | ps <;> rcases f x.toNat with _ | p <;> rfl
theorem decS_none (f : Nat → Option Nat) (x : UInt8) (r : List UInt8) (hx : f x.toNat = none) : ∀ l : List UInt8, decS f (l ++ x :: r) = none
  | [] => by
    show (match f x.toNat, decS f r with | some p, some ps => some (p :: ps) | _, _ => none) = none
    rw [hx]
  | y :: l => by
    have ih := decS_none f x r hx l
    show (match f y.toNat, decS f (l ++ x :: r) with | some p, some ps => some (p :: ps) | _, _ => none) = none
    rw [ih]
    rcases f y.toNat with _ | q <;> rfl
theorem decS_len (f : Nat → Option Nat) : ∀ (l : List UInt8) (ps : List Nat), decS f l = some ps → ps.length = l.length
  | [], ps, h => by obtain rfl := Option.some.inj h; rfl
  | y :: l, ps, h => by
    unfold decS at h
    split at h
    · rename_i p qs h1 h2
      obtain rfl := Option.some.inj h
      rw [List.length_cons, List.length_cons, decS_len f l qs h2]
    · cases h
theorem cell_set_other {W : World} {b c o j : Nat} {v x : Value} (h : W.cell? ⟨b, o, none⟩ = some x) (hne : b ≠ c) : (W.setCell ⟨c, j, none⟩ v).cell? ⟨b, o, none⟩ = some x := (World.cell?_of_block (heap_set_other (b := b) v hne)).trans h
theorem pair_cells {w : World} {base e n cap : Nat} {a : Option Addr} {L : List (Nat × Nat)} (h : Recs w base e 2 (.slice a n cap) (L.map prR)) (k : Nat) (hk : k < L.length) :
    ∃ b off, a = some ⟨b, off, none⟩ ∧ b < w.heap.size ∧ w.cell? ⟨b, off + k * 2, none⟩ = some (.int .i64 L[k].1) ∧ w.cell? ⟨b, off + k * 2 + 1, none⟩ = some (.int .i32 L[k].2) := by
  obtain ⟨a', cap', hv, -, hr⟩ := h.at
  injection hv with h1 h2 h3
  subst h1
  rcases hr.2.2 with h0 | ⟨b, off, ha, hb, hc⟩
  · rw [List.length_map] at h0; omega
  · have h2 := hc k (by rw [List.length_map]; exact hk)
    refine ⟨b, off, ha, hb, ?_, ?_⟩
    · have := h2 0 (by decide)
      rw [List.getElem_map] at this
      exact this
    · have := h2 1 (by decide)
      rw [List.getElem_map] at this
      rw [Nat.add_assoc]
      exact this
set_option maxHeartbeats 4000000 in
set_option maxRecDepth 100000 in
theorem sdec_any (f : Nat → Option Nat) (v : Value) (c : Int) (b : List UInt8) (w : World) (B : Nat) (hF : Hid (TabF w B v f)) (hf : Hid (∀ c, 256 ≤ c → f c = none)) (hfs : Hid (∀ c p, f c = some p → Sc p)) (hb : b.length ≤ 1000000) :
    Calls Tryz.prog 23 #[.agg #[v, .int .i64 c], .string ⟨b.toArray⟩] w fun e w' => ∃ (t : List UInt8) (cd pl : Int), e = .returned (.tuple #[.string ⟨t.toArray⟩, .agg #[.int .i64 cd, .int .i64 pl]]) ∧ ((∃ ps, decS f b = some ps ∧ t = encs ps ∧ cd = 0 ∧ pl = 0) ∨ (decS f b = none ∧ t = [] ∧ cd = 2)) ∧ Below w.heap.size w w' := by
  obtain ⟨vb, vo, vn, vc, rfl, -⟩ := hF.out.view
  have TP := Lib.hid (fun w h => tpairs_F (B := B) f (.slice (some ⟨vb, vo, none⟩) vn vc) w h hf.out)
  obtain ⟨A0, A1, A2, A3, AZ, AK⟩ := alloc4 w (.cells #[.slice (some ⟨vb, vo, none⟩) vn vc, .int .i64 c] 45) (.cells #[.int .i64 0, .int .i64 0] 26) (.cells Tryz.zeroCells87 87) (.cells Tryz.zeroCells88 88)
  obtain ⟨rb, hrb⟩ : ∃ rb, rb = w.heap.size := ⟨_, rfl⟩
  go_enter Tryz.func23, Tryz.ntmps23
  go_upto_region 3 with (fail)
  generalize (((w.alloc (.cells #[.slice (some ⟨vb, vo, none⟩) vn vc, .int .i64 c] 45)).alloc (.cells #[.int .i64 0, .int .i64 0] 26)).alloc (.cells Tryz.zeroCells87 87)).alloc (.cells Tryz.zeroCells88 88) = w0 at *
  rw [← hrb] at A0 A1 A2 A3 AZ
  rw [arrB_zero] at A2
  rw [arrR_zero] at A3
  have X := Lib.hid A0
  have F := Lib.hid A1
  have KN := Lib.hid A2
  have SN := Lib.hid A3
  have K := Lib.hid AK
  rw [← hrb]
  have HRB := Lib.hid hrb
  have HZ := Lib.hid AZ
  clear hrb AZ A0 A1 A2 A3 AK
  have x0 : w0.cell? ⟨rb, 0, none⟩ = some (.slice (some ⟨vb, vo, none⟩) vn vc) := by rw [cell_at X.out]; rfl
  go_upto_region 4 with (go_at_call 29; (with_reducible refine (TP.out _ (hF.out.below K.out)).mono ?_); rintro e w1 ⟨u, rfl, hu, hb1⟩; obtain ⟨a, cap, rfl, hcap, hua⟩ := hu.at; have V := Lib.hid hu; have hwz := hb1.size; replace F := Lib.hid (block_below F.out hb1); replace KN := Lib.hid (block_below KN.out hb1); replace SN := Lib.hid (block_below SN.out hb1); replace K := Lib.hid (nextB K.out hb1); clear hu hb1 x0 hcap)
  rw [HZ.out] at V
  clear hua
  have hLn : ((prs f 256).map prR).length ≤ 256 := by rw [List.length_map]; exact prs_len f 256
  rw [List.length_map] at hLn V
  have HL9 : Hid (∀ x ∈ prs f 256, x.1 < 256 ∧ Sc x.2) := Lib.hid (fun x hx => ⟨(prs_mem hx).1, hfs.out _ _ (prs_mem hx).2⟩)
  have HTB : Hid (∀ i, i < 256 → tbl (prs f 256) i = f i) := Lib.hid (fun i hi => by rw [tbl_prs, if_pos hi])
  generalize prs f 256 = L at *
  have hni : (L.length : Int) ≤ 256 := by omega
  clear X
  go_loopw [16] (fun i wr => ∃ k : Nat, k ≤ L.length ∧ i = .int .i64 k ∧ Hid (wr.heap[rb + 2]? = some (.cells (arrB (tbl (L.take k))) 87 (0, 0))) ∧ Hid (wr.heap[rb + 3]? = some (.cells (arrR (tbl (L.take k))) 88 (0, 0))) ∧ Hid (wr.heap[rb + 1]? = some (.cells #[.int .i64 0, .int .i64 0] 26 (0, 0))) ∧ Hid (Recs wr (rb + 4) 34 2 (.slice a L.length cap) (L.map prR)) ∧ Hid (Below w.heap.size w wr)) (fun i _ => L.length - (intOf i).toNat)
  case atStart => exact ⟨0, by omega, rfl, KN, SN, F, V, K⟩
  case round =>
    clear KN SN F V K
    obtain ⟨k, hk, rfl, KN, SN, F, V, K⟩ := hrel
    by_cases hlt : k < L.length
    · have g0 : (k : Int) < L.length := by omega
      obtain ⟨g, off, rfl, hgb, c0, c1⟩ := pair_cells V.out k hlt
      obtain ⟨hp1, hp2⟩ := HL9.out L[k] (List.getElem_mem hlt)
      have HTK : Hid (L.take (k + 1) = L.take k ++ [L[k]]) := Lib.hid (List.take_succ_eq_append_getElem hlt)
      obtain ⟨pc, hpc⟩ : ∃ pc, pc = L[k].1 := ⟨_, rfl⟩
      obtain ⟨pp, hpp⟩ : ∃ pp, pp = L[k].2 := ⟨_, rfl⟩
      rw [← hpc] at c0 hp1
      rw [← hpp] at c1 hp2
      have HB2 : Hid (∀ i, tbl (L.take (k + 1)) i = if pc = i then some pp else tbl (L.take k) i) := Lib.hid (fun i => by rw [HTK.out, tbl_snoc, hpc, hpp])
      clear hpc hpp
      have hpi : (pp : Int) ≤ 1114111 := by unfold Sc at hp2; omega
      clear hp2
      have g1 : (pc : Int) < 256 := by omega
      generalize tbl (L.take k) = T0 at *
      have hpz : rb + 3 < wr.heap.size := (Array.getElem?_eq_some_iff.1 SN.out).1
      go_upto_region 6 with (fail)
      have P := Lib.hid (at_a0 wr #[.int .i64 pc, .int .i32 pp] 34)
      have hB := (Below.refl wr.heap.size wr).alloc (Nat.le_refl _) (.cells #[.int .i64 pc, .int .i32 pp] 34)
      replace KN := Lib.hid (block_below KN.out hB)
      replace SN := Lib.hid (block_below SN.out hB)
      replace F := Lib.hid (block_below F.out hB)
      replace V := Lib.hid (V.out.below hB)
      replace K := Lib.hid (nextB K.out hB)
      clear hB c0 c1 hgb
      generalize wr.alloc (.cells #[.int .i64 pc, .int .i32 pp] 34) = w2 at *
      generalize wr.heap.size = pb at *
      obtain ⟨y0, y1⟩ := cells2 (P.out)
      have k0 : w2.cell? ⟨rb + 2, pc, none⟩ = some (.bool (T0 pc).isSome) := (cell_at KN.out).trans (arrB_get T0 pc hp1)
      have kf : w2.frozen? ⟨rb + 2, pc, none⟩ = false := free_at KN.out
      have s0 : w2.cell? ⟨rb + 3, pc, none⟩ = some (.int .i32 ((T0 pc).getD 0 : Nat)) := (cell_at SN.out).trans (arrR_get T0 pc hp1)
      have sf : w2.frozen? ⟨rb + 3, pc, none⟩ = false := free_at SN.out
      go_upto_region 7 with (fail)
      have cc : w2.cell? ⟨pb, 0, none⟩ = some (.int .i64 pc) ∧ w2.cell? ⟨pb, 1, none⟩ = some (.int .i32 pp) := ⟨y0, y1⟩
      have n1 : pb ≠ rb + 2 := by omega
      have n2 : pb ≠ rb + 3 := by omega
      have n3 : rb + 2 ≠ rb + 3 := by omega
      go_region_held3 (fun w' => w'.cell? ⟨pb, 0, none⟩ = some (.int .i64 pc) ∧ w'.cell? ⟨pb, 1, none⟩ = some (.int .i32 pp)) (first | exact cc | exact ⟨cell_set_other (cell_set_other y0 n1) n2, cell_set_other (cell_set_other y1 n1) n2⟩ | exact ⟨cell_set_other y0 n1, cell_set_other y1 n1⟩ | fail) (fail)
      have KN3 := Lib.hid (((heap_set_other (w := w2.setCell ⟨rb + 2, pc, none⟩ (.bool true)) (b := rb + 2) (c := rb + 3) (j := pc) (.int .i32 pp) n3).trans (setCell_at (j := pc) (v := .bool true) KN.out)).trans (show some (Obj.cells ((arrB T0).setIfInBounds pc (.bool true)) 87 (0, 0)) = some (.cells (arrB (tbl (L.take (k + 1)))) 87 (0, 0)) by rw [arrB_set T0 pc pp hp1, show tbl (L.take (k + 1)) = _ from funext HB2.out]))
      have SN3 := Lib.hid ((setCell_at (j := pc) (v := .int .i32 pp) ((heap_set_other (b := rb + 3) (c := rb + 2) (j := pc) (.bool true) n3.symm).trans SN.out)).trans (show some (Obj.cells ((arrR T0).setIfInBounds pc (.int .i32 pp)) 88 (0, 0)) = some (.cells (arrR (tbl (L.take (k + 1)))) 88 (0, 0)) by rw [arrR_set T0 pc pp hp1, show tbl (L.take (k + 1)) = _ from funext HB2.out]))
      have F3 := Lib.hid ((heap_set_other (w := w2.setCell ⟨rb + 2, pc, none⟩ (.bool true)) (b := rb + 1) (c := rb + 3) (j := pc) (.int .i32 pp) (by omega)).trans ((heap_set_other (b := rb + 1) (c := rb + 2) (j := pc) (.bool true) (by omega)).trans F.out))
      have V3 := Lib.hid ((V.out.setOlder (c := rb + 2) (j := pc) (u := .bool true) (by omega)).setOlder (c := rb + 3) (j := pc) (u := .int .i32 pp) (by omega))
      have K3 := Lib.hid ((K.out.setCell (p := ⟨rb + 2, pc, none⟩) (show w.heap.size ≤ rb + 2 by have := HRB.out; omega) (.bool true)).setCell (p := ⟨rb + 3, pc, none⟩) (show w.heap.size ≤ rb + 3 by have := HRB.out; omega) (.int .i32 pp))
      go_wp2
      exact ⟨⟨k + 1, by omega, by simp, KN3, SN3, F3, V3, Lib.hid (show Below w.heap.size w _ from belowN K3.out 1)⟩, by simp [intOf]; omega⟩
    · have g0 : ¬ (k : Int) < L.length := by omega
      have hd0 : L.take k = L := List.take_of_length_le (by omega)
      rw [hd0] at KN SN
      clear hd0 V
      go_wp2
      go_loopw [10, 11] (fun v i wr => ∃ (j : Nat) (ps : List Nat), j ≤ b.length ∧ i = .int .i64 j ∧ Hid (decS f (b.take j) = some ps) ∧ Hid (Buf wr (rb + 4) 5 v (encs ps)) ∧ Hid (wr.heap[rb + 2]? = some (.cells (arrB (tbl L)) 87 (0, 0))) ∧ Hid (wr.heap[rb + 3]? = some (.cells (arrR (tbl L)) 88 (0, 0))) ∧ Hid (wr.heap[rb + 1]? = some (.cells #[.int .i64 0, .int .i64 0] 26 (0, 0))) ∧ Hid (Below w.heap.size w wr)) (fun _ i _ => b.length - (intOf i).toNat)
      case atStart => exact ⟨0, [], by omega, rfl, Lib.hid (by rw [List.take_zero]; rfl), Lib.hid (Buf.nil _ _ _), KN, SN, F, K⟩
      case round =>
        clear KN SN F K
        obtain ⟨j, ps, hj, rfl, HD, V, KN, SN, F, K⟩ := hrel
        by_cases hjb : j < b.length
        · have g1 : (j : Int) < b.length := by omega
          have hx9 := UInt8.toNat_lt b[j]
          have k0 : wr.cell? ⟨rb + 2, b[j].toNat, none⟩ = some (.bool (f b[j].toNat).isSome) := by
            rw [cell_at KN.out, arrB_get _ _ hx9, HTB.out _ hx9]
          have s0 : wr.cell? ⟨rb + 3, b[j].toNat, none⟩ = some (.int .i32 ((f b[j].toNat).getD 0 : Nat)) := by
            rw [cell_at SN.out, arrR_get _ _ hx9, HTB.out _ hx9]
          have hbt : b.take (j + 1) = b.take j ++ [b[j]] := List.take_succ_eq_append_getElem hjb
          have hbd : b = b.take j ++ b[j] :: b.drop (j + 1) := by rw [← List.drop_eq_getElem_cons hjb, List.take_append_drop]
          rcases hfx : f b[j].toNat with _ | p
          · have HN : Hid (decS f b = none) := Lib.hid (by rw [hbd]; exact decS_none f _ _ hfx _)
            rw [hfx] at k0
            clear hbt hbd s0 hfx
            obtain ⟨y0, y1⟩ := cells2 (F.out); obtain ⟨yf0, yf1⟩ := frees2 (F.out)
            go_wp2
            have hw1 : w.heap.size ≤ rb + 1 := by have := HRB.out; omega
            refine end_tmp_cell (by rfl) rfl (by rfl) (store2 F.out rfl) Tryz.underlying26 rfl (by kernel_rfl) ?_
            exact ⟨[], 2, j, rfl, .inr ⟨HN.out, rfl, rfl⟩, (K.out.setCell hw1 _).setCell hw1 _⟩
          · rw [hfx] at k0 s0
            replace k0 : wr.cell? ⟨rb + 2, b[j].toNat, none⟩ = some (.bool true) := k0
            replace s0 : wr.cell? ⟨rb + 3, b[j].toNat, none⟩ = some (.int .i32 (p : Nat)) := s0
            have hsc := hfs.out _ _ hfx
            have HD2 : Hid (decS f (b.take (j + 1)) = some (ps ++ [p])) := Lib.hid (by rw [hbt, decS_snoc, HD.out, hfx])
            have hp9 : p ≤ 2147483647 := by unfold Sc at hsc; omega
            have hpl : (encs ps).length ≤ 4000000 := by
              have h1 := encs_len ps
              have h2 := decS_len f _ _ HD.out
              rw [List.length_take] at h2
              omega
            have hrs : rb + 4 ≤ wr.heap.size := (Array.getElem?_eq_some_iff.1 SN.out).1
            have AP := Lib.hid (apR_any V.out (by omega) hrs p hp9)
            have l5 := V.out.lt
            have L5 := Lib.hid l5
            clear l5 hbt hbd hfx hsc
            go_wp2_with (go_at_call 55; (with_reducible refine AP.out.mono ?_); rintro e w5 ⟨v5, rfl, hv5, o, hg5⟩; have V5 := Lib.hid hv5; have K5 := Lib.hid (grown_alloc (Below.refl (rb + 4) wr) hrs hg5 (fun k e => (L5.out k e).1)); clear hv5 hg5)
            exact ⟨⟨j + 1, ps ++ [p], by omega, by simp, HD2, Lib.hid (by rw [encs_snoc]; exact V5.out), Lib.hid ((K5.out.block (rb + 2) (by omega)).trans KN.out), Lib.hid ((K5.out.block (rb + 3) (by omega)).trans SN.out), Lib.hid ((K5.out.block (rb + 1) (by omega)).trans F.out), Lib.hid (K.out.trans (K5.out.mono (by have := HRB.out; omega)))⟩, by simp [intOf]; omega⟩
        · have g1 : ¬ (j : Int) < b.length := by omega
          have hd0 : b.take j = b := List.take_of_length_le (by omega)
          rw [hd0] at HD
          have hcv := ownsRow_bytes (P := Tryz.prog) (src := 35) (dst := 9) (show World.ownsRow _ _ _ _ _ _ _ from V.out) Tryz.underlying35 Tryz.underlying5 Tryz.underlying9
          clear hd0
          obtain ⟨y0, y1⟩ := cells2 (F.out); obtain ⟨yf0, yf1⟩ := frees2 (F.out)
          go_wp2
          have hw1 : w.heap.size ≤ rb + 1 := by have := HRB.out; omega
          refine end_tmp_cell (by rfl) rfl (by rfl) (store2 F.out rfl) Tryz.underlying26 rfl (by kernel_rfl) ?_
          exact ⟨encs ps, 0, 0, rfl, .inl ⟨ps, HD.out, rfl, rfl, rfl⟩, (K.out.setCell hw1 _).setCell hw1 _⟩
end Go.Proofs.YtffhmjlojmoomaaGreatDoor

namespace Go.Proofs.YtffhmjlojmoomaaGreatDoor
open Go.RowKit
set_option linter.unusedVariables false
set_option linter.unusedSimpArgs false

theorem tabCode_min : ∀ (S : List Rv) (p c : Nat), TabDis S → (∀ r ∈ S, (rwS r).length = r.ct) → tabSign S c = some p → ∃ a, tabCode S p = some a ∧ a ≤ c := by
  intro S p c hd hl h
  obtain ⟨r, hr, h1, h2, h3⟩ := tabSign_some h
  clear h
  induction S with
  | nil => cases hr
  | cons r0 S ih =>
    rw [tabCode_cons]
    rcases hc : rwCode r0 p with _ | k
    · have hn := rwCode_none hc
      rcases List.mem_cons.1 hr with rfl | hr'
      · exact absurd (List.mem_of_getElem? h3) hn
      · exact ih (List.Pairwise.of_cons hd) (fun q hq => hl q (by simp [hq])) hr'
    · obtain ⟨hk, h4, h5⟩ := rwCode_some hc
      refine ⟨r0.fr + k, rfl, ?_⟩
      rcases List.mem_cons.1 hr with rfl | hr'
      · rcases Nat.lt_or_ge (c - r.fr) k with hlt | hge
        · obtain ⟨hx, hy⟩ := List.getElem?_eq_some_iff.1 h3
          exact absurd hy (h5 _ hlt)
        · omega
      · have h6 := (List.pairwise_cons.1 hd).1 r hr'
        have h7 := hl r0 (by simp)
        omega
/-- what Reverse finds -/
def RevOf (f : Nat → Option Nat) (p : Nat) (o : Option Nat) : Prop := (∀ a, o = some a → f a = some p ∧ ∀ c, f c = some p → a ≤ c) ∧ (o = none → ∀ c, f c ≠ some p)
theorem treverse_F {B : Nat} (f : Nat → Option Nat) (v : Value) (p : Nat) (hp : p ≤ 1114111) (w : World) (h : TabF w B v f) :
    Calls Tryz.prog 74 #[.agg #[v], .int .i32 p] w fun e w' => ∃ o : Option Nat, e = .returned (.tuple #[.int .i64 ((o.getD 0 : Nat) : Int), .bool o.isSome]) ∧ RevOf f p o ∧ Below w.heap.size w w' := by
  obtain ⟨S, h1, h2, h3, h4, h5, h6⟩ := h
  refine (reverse_any S v p hp w h5 (Lib.hid h1.1)).mono ?_
  rintro e w' ⟨he, hb⟩
  refine ⟨tabCode S p, he, ⟨fun a ha => ⟨?_, fun c hc => ?_⟩, fun hn c hc => ?_⟩, hb⟩
  · rw [← h6 a]
    exact tab_back h2 (fun r hr => (h3 r hr).2.1) ha
  · obtain ⟨a', ha', hle⟩ := tabCode_min S p c h2 (fun r hr => (h3 r hr).2.1) ((h6 c).trans hc)
    rw [ha] at ha'
    obtain rfl := Option.some.inj ha'
    exact hle
  · obtain ⟨a', ha', hle⟩ := tabCode_min S p c h2 (fun r hr => (h3 r hr).2.1) ((h6 c).trans hc)
    rw [hn] at ha'
    cases ha'
theorem tforward_F {B : Nat} (f : Nat → Option Nat) (v : Value) (a : Nat) (ha : a ≤ 2000000) (w : World) (h : TabF w B v f) :
    Calls Tryz.prog 75 #[.agg #[v], .int .i64 a] w fun e w' => e = .returned (.tuple #[.int .i32 (((f a).getD 0 : Nat) : Int), .bool (f a).isSome]) ∧ Below w.heap.size w w' := by
  obtain ⟨S, h1, h2, h3, h4, h5, h6⟩ := h
  rw [← h6 a]
  exact forward_tab S v a w h4 h5 ha (Lib.hid h2) (Lib.hid h1.1)
theorem tsize_F {B : Nat} (f : Nat → Option Nat) (v : Value) (hf : ∀ c, 256 ≤ c → f c = none) (w : World) (h : TabF w B v f) :
    Calls Tryz.prog 67 #[.agg #[v]] w fun e w' => e = .returned (.int .i64 (((prs f 256).length : Nat) : Int)) ∧ Below w.heap.size w w' := by
  obtain ⟨S, h1, h2, h3, h4, h5, h6⟩ := h
  have hz := tabSize_dis S 0 h2 h3 (fun r hr => Nat.zero_le _) (by omega)
  have e : tabPairs S = prs f 256 := by
    rw [tabPairs_from S 0 1048576 h2 (fun r hr => ⟨(h3 r hr).2.1, Nat.zero_le _, by have := (h3 r hr).2.2; omega⟩), prsFrom_cong (g := f) (fun c _ _ => h6 c), show 1048576 = 256 + 1048320 by rfl, prsFrom_app, prsFrom_none f (0 + 256) 1048320 (fun c hc _ => hf c (by omega)), List.append_nil]
    rfl
  rw [← e, tabPairs_len]
  exact tsize_any S v w h5 (Lib.hid h1.1)
theorem tover_F (lo : Nat) (f g : Nat → Option Nat) (v u : Value) (w : World) (hlo : lo ≤ w.heap.size) (h : TabF w lo v f) (k : TabF w lo u g) :
    Calls Tryz.prog 73 #[.agg #[v], .agg #[u]] w fun e w' => ∃ v', e = .returned (.agg #[v']) ∧ TabF w' lo v' (ovF f g) ∧ Below w.heap.size w w' := by
  obtain ⟨SA, a1, a2, a3, a4, a5, a6⟩ := h
  obtain ⟨SB, b1, b2, b3, b4, b5, b6⟩ := k
  refine (over_any SA SB _ _ w (Lib.hid a2) (Lib.hid b2) (Lib.hid a3) (Lib.hid b3) a4 b4 a5 b5 lo hlo (Lib.hid a1) (Lib.hid b1)).mono ?_
  rintro e w8 ⟨v3, S3, rfl, s1, s2, s3, s4, s5, hb8⟩
  exact ⟨v3, rfl, ⟨S3, s1, s2, s3, s5, by have := tab_len S3 0 s2 s3 (fun r hr => Nat.zero_le _) (by omega); omega, fun c => by rw [s4 c, a6 c]; unfold ovF; rcases f c with _ | p; exact b6 c; rfl⟩, hb8⟩
theorem tnew_F (a : Option Addr) (n cap : Nat) (L : List Pie) (w : World) (hs : Hid (RecsAt w a n 4 (L.map pieR))) (hcap : n ≤ cap) (hn : n ≤ 1000000) (hn1 : 1 ≤ n) (hok : Hid (∀ p ∈ L, PieOk p ∧ (p.tx ≠ [] → p.tp = 0 ∧ p.ct = 0))) (hd : Hid (L.Pairwise PieDis)) (hT : Hid (Tabs w)) :
    Calls Tryz.prog 58 #[.slice a n cap] w fun e w' => ∃ v, e = .returned (.tuple #[.agg #[v], .agg #[.int .i64 0, .int .i64 0]]) ∧ TabF w' w.heap.size v (pieF L) ∧ Below w.heap.size w w' := by
  have hl : L.length = n := by simpa using hs.out.1
  refine (new_any a n cap L w hs hcap hn hn1 hok hd hT).mono ?_
  rintro e w' ⟨v, S, he, h1, h2, hb⟩
  exact ⟨v, he, tabOf_F (fun p hp => (hok.out p hp).1) hd.out (by omega) (by omega) h1 h2, hb⟩
end Go.Proofs.YtffhmjlojmoomaaGreatDoor
