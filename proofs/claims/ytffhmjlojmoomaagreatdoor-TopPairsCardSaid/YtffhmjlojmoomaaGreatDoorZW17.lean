/- Layer 7 (wansung): Rows, walked (over the shelf's contract of slices.SortFunc). | Layer 7 (wansung): Rows, walked. -/
import Derived.Test.YtffhmjlojmoomaaGreatDoorZW16
import Derived.Test.YtffhmjlojmoomaaGreatDoorZU31
import Derived.Deep.QuietTactic

namespace Go.Proofs.YtffhmjlojmoomaaGreatDoor
open Go.RowKit
set_option linter.unusedVariables false
set_option linter.unusedSimpArgs false

def cfP (x y : Nat × Nat) : Int := Lib.compareInt x.1 y.1
theorem prR_len (x : Nat × Nat) : (prR x).length = 2 := rfl
theorem cfP_swo : Sort.SWO (ltOf cfP) := by
  have key : ∀ x y : Nat × Nat, ltOf cfP x y = decide (x.1 < y.1) := by
    intro x y
    unfold ltOf cfP Lib.compareInt
    by_cases h : x.1 < y.1
    · rw [if_pos (by omega), decide_eq_true h]; rfl
    · rw [if_neg (by omega), decide_eq_false h]
      split <;> rfl
  refine ⟨fun x => ?_, fun x y z h1 h2 => ?_, fun x y z h1 h2 => ?_⟩
  · rw [key]; simp
  · rw [key] at *; simp at *; omega
  · rw [key] at *; simp at *; omega
set_option maxRecDepth 100000 in
theorem pcmp_any (x y : Nat × Nat) (w : World) : Calls Tryz.prog 61 #[.agg (prR x).toArray, .agg (prR y).toArray] w fun e w' => e = .returned (.int .i64 (cfP x y)) ∧ ∃ q os', w' = Sort.grow (w.drewN q) os' := by
  have CM := Lib.hid (fun w => Tryz.cmp_Compare_int (x.1 : Int) (y.1 : Int) w)
  unfold prR cfP
  go_enter Tryz.func61, Tryz.ntmps61
  go_wp2_with (go_at_call 62; (with_reducible refine (CM.out _).mono ?_); rintro e wx ⟨rfl, rfl⟩)
  go_ret
  refine ⟨rfl, 0, #[.cells #[.int .i64 x.1, .int .i32 x.2] 34, .cells #[.int .i64 y.1, .int .i32 y.2] 34], ?_⟩
  exact grow_two _ _ _
set_option maxHeartbeats 1000000 in
set_option maxRecDepth 100000 in
theorem psort_any (base g cap n : Nat) (L : List (Nat × Nat)) (w : World) (hn : n = L.length) (hn9 : n ≤ 1000000000) (h : Recs w base 34 2 (.slice (some ⟨g, 0, none⟩) n cap) (L.map prR)) :
    Calls Tryz.prog 60 #[.slice (some ⟨g, 0, none⟩) n cap, .func (.func 61) #[] #[]] w fun e w' => e = .returned (.tuple #[]) ∧ ∃ L' : List (Nat × Nat), L'.Perm L ∧ RecsAt w' (some ⟨g, 0, none⟩) n 2 (L'.map prR) ∧ Only g w w' := by
  have hg := (h.lt g rfl).2
  have hH := holds_recs prR 2 (by decide) h hn
  have SF := AnyQ.slices_SortFunc (P := Tryz.prog) Tryz.laysSP 2 (fun w => Tryz.isAgg34 w) (fun w => Tryz.sizeOf34 w) prR prR_len one_prR cfP cfP_swo 61 #[] g 0 cap L.toArray w (enters_of Tryz.func61 (by kernel_rfl) rfl) (fun m os dk hdk x y => pcmp_any x y _) hH hg (by show L.length < _; omega)
  subst hn
  refine Calls.mono SF ?_
  rintro e w' ⟨he, d', m, os, hp, hs, rfl⟩
  refine ⟨he, d'.toList, ?_, ?_, only_sort _ _ _ _ _ _ _ _⟩
  · have h1 := hp.2.2
    have h2 : d'.extract 0 L.toArray.size = d' := by rw [← hp.1]; simp
    rw [h2] at h1
    simpa using h1
  · have hh := holdsK_sortWorldK prR 2 w g 0 m L.toArray d' os hg hH hp.1
    have hlt := lt_sortWorldK prR 2 w g 0 m d' os hg
    have hh2 : Sort.HoldsK prR 2 (sortWorldK prR 2 w g 0 m d' os) g 0 d'.toList.toArray := by simpa using hh
    have h3 := recs_holds prR 2 prR_len hlt hh2
    have h4 : d'.toList.length = L.length := by have := hp.1; simpa using this
    rw [h4] at h3
    exact h3
/-- all pairs of a table -/
theorem tpairs_G {B : Nat} (f : Nat → Option Nat) (v : Value) (w : World) (hF : TabF w B v f) :
    Calls Tryz.prog 29 #[.agg #[v]] w fun e w' => ∃ u, e = .returned u ∧ Recs w' w.heap.size 34 2 u ((prsFrom f 0 1048576).map prR) ∧ Below w.heap.size w w' := by
  obtain ⟨S, h1, h2, h3, h4, h5, h6⟩ := hF
  have hz := tabSize_dis S 0 h2 h3 (fun r hr => Nat.zero_le _) (by omega)
  have e : tabPairs S = prsFrom f 0 1048576 := by
    rw [tabPairs_from S 0 1048576 h2 (fun r hr => ⟨(h3 r hr).2.1, Nat.zero_le _, by have := (h3 r hr).2.2; omega⟩), prsFrom_cong (g := f) (fun c _ _ => h6 c)]
  rw [← e]
  exact tpairs_any S v w h5 (by omega) (Lib.hid h1.1)
theorem prsFrom_len (f : Nat → Option Nat) (a n : Nat) : (prsFrom f a n).length ≤ n := by
  unfold prsFrom
  refine Nat.le_trans (List.length_filterMap_le _ _) ?_
  simp
/-- the shape of the rows' pieces -/
def shP (p : Pie) : Nat × Nat := (p.fr, p.ct)
def wShape : List (Nat × Nat) := (List.range 94).map (fun k => (41377 + k, 1)) ++ (List.range 71).map (fun k => (41633 + k, 1)) ++ (List.range 68).map (fun k => (42657 + k, 1)) ++ spW.map (fun x => (x.1, x.2.2))
theorem liPA_shape (a : Nat) (ns : List Nat) : (liPA a ns).map shP = (List.range ns.length).map (fun k => (a + k, 1)) := by
  unfold liPA
  rw [List.map_map]
  rfl
theorem wPies_shape {C : Cst} (hC : CstOk C) : (wPies C).map shP = wShape := by
  obtain ⟨h1, h2, h3, -⟩ := hC.wL
  unfold wPies wPre
  rw [List.map_append, show List.range 6 = [0, 1, 2, 3, 4, 5] from rfl]
  simp only [List.flatMap_cons, List.flatMap_nil, List.append_nil, List.map_append, liPA_shape]
  have e1 : lisW C ((161 + 0 : Nat) : Int) = C.wA1 := rfl
  have e2 : lisW C ((161 + 1 : Nat) : Int) = C.wA2 := rfl
  have e3 : lisW C ((161 + 2 : Nat) : Int) = [] := rfl
  have e4 : lisW C ((161 + 3 : Nat) : Int) = [] := rfl
  have e5 : lisW C ((161 + 4 : Nat) : Int) = [] := rfl
  have e6 : lisW C ((161 + 5 : Nat) : Int) = C.wA6 := rfl
  rw [e1, e2, e3, e4, e5, e6, h1, h2, h3]
  rfl
theorem wPies_mem {C : Cst} (hC : CstOk C) : ∀ p ∈ wPies C, p.tx = [] ∧ 1 ≤ p.ct ∧ p.fr + p.ct ≤ 60000 ∧ (p.tp + p.ct ≤ 55296 ∨ (57344 ≤ p.tp ∧ p.tp + p.ct ≤ 65536)) := by
  intro p hp
  obtain ⟨h1, h2, h3, h4⟩ := hC.wL
  unfold wPies at hp
  rcases List.mem_append.1 hp with hp | hp
  · unfold wPre at hp
    obtain ⟨i, hi, hp⟩ := List.mem_flatMap.1 hp
    have hi6 := List.mem_range.1 hi
    unfold liPA at hp
    obtain ⟨k, hk, rfl⟩ := List.mem_map.1 hp
    have hk := List.mem_range.1 hk
    have hl := (lisW_len hC ((161 + i : Nat) : Int)).1
    rw [List.getD_eq_getElem?_getD, List.getElem?_eq_getElem hk]
    have hm : (lisW C ((161 + i : Nat) : Int))[k] ∈ C.wA1 ++ C.wA2 ++ C.wA6 := by
      have h0 := List.getElem_mem hk
      generalize (lisW C ((161 + i : Nat) : Int))[k] = n at *
      unfold lisW at h0
      split at h0
      · simp [h0]
      split at h0
      · simp [h0]
      split at h0
      · simp [h0]
      · cases h0
    have := h4 _ hm
    refine ⟨rfl, Nat.le_refl _, ?_, ?_⟩
    · simp only; omega
    · simp only [Option.getD_some]; omega
  · obtain ⟨x, hx, rfl⟩ := List.mem_map.1 hp
    have hs : ∀ x ∈ spW, 1 ≤ x.2.2 ∧ x.1 + x.2.2 ≤ 60000 ∧ (x.2.1 + x.2.2 ≤ 55296 ∨ (57344 ≤ x.2.1 ∧ x.2.1 + x.2.2 ≤ 65536)) := by decide
    exact ⟨rfl, hs x hx⟩
theorem wPies_ok {C : Cst} (hC : CstOk C) : ∀ p ∈ wPies C, PieOk p ∧ (p.tx ≠ [] → p.tp = 0 ∧ p.ct = 0) := by
  intro p hp
  obtain ⟨h1, h2, h3, h4⟩ := wPies_mem hC p hp
  exact ⟨⟨by omega, .inl ⟨h1, h2, by omega, by omega⟩⟩, fun h => absurd h1 h⟩
set_option maxRecDepth 100000 in
theorem wShape_dis : wShape.Pairwise (fun x y => x.1 + x.2 ≤ y.1 ∨ y.1 + y.2 ≤ x.1) := by decide +kernel
theorem wPies_dis {C : Cst} (hC : CstOk C) : (wPies C).Pairwise PieDis := by
  have h := wShape_dis
  rw [← wPies_shape hC, List.pairwise_map] at h
  refine List.Pairwise.imp_of_mem ?_ h
  intro p q hp hq hpq
  unfold PieDis pieN
  rw [if_pos (wPies_mem hC p hp).1, if_pos (wPies_mem hC q hq).1]
  exact hpq
set_option maxRecDepth 100000 in
theorem wPies_len {C : Cst} (hC : CstOk C) : (wPies C).length = 252 := by
  have h := congrArg List.length (wPies_shape hC)
  rw [List.length_map] at h
  rw [h]
  decide +kernel
theorem pieF_ex {L : List Pie} {c : Nat} (h : ∃ p ∈ L, p.fr ≤ c ∧ c < p.fr + pieN p) : (pieF L c).isSome = true := by
  obtain ⟨p, hp, h1, h2⟩ := h
  unfold pieF
  rw [List.isSome_findSome?, List.any_eq_true]
  refine ⟨p, hp, ?_⟩
  rw [if_pos ⟨h1, h2⟩, List.getElem?_eq_getElem (by rw [pieS_len]; omega)]
  rfl
theorem wPies_in {C : Cst} (hC : CstOk C) {a n : Nat} (h : (a, n) ∈ wShape) {c : Nat} (h1 : a ≤ c) (h2 : c < a + n) : (pieF (wPies C) c).isSome = true := by
  rw [← wPies_shape hC] at h
  obtain ⟨p, hp, e⟩ := List.mem_map.1 h
  injection e with e1 e2
  refine pieF_ex ⟨p, hp, by omega, ?_⟩
  unfold pieN
  rw [if_pos (wPies_mem hC p hp).1]
  omega
theorem prsFrom_full {f : Nat → Option Nat} {a n : Nat} (h : ∀ k, k < n → (f (a + k)).isSome = true) : (prsFrom f a n).length = n := by
  rw [prsFrom_all (s := fun k => (f (a + k)).getD 0) (fun k hk => by
    have := h k hk
    rcases hf : f (a + k) with _ | p
    · rw [hf] at this; cases this
    · rfl)]
  simp
set_option maxRecDepth 100000 in
theorem wPairs_many {C : Cst} (hC : CstOk C) : 200 < (prsFrom (pieF (wPies C)) 0 1048576).length := by
  have e : (1048576 : Nat) = 42145 + (94 + (1442 + (83 + 1004812))) := by rfl
  rw [e, prsFrom_app, prsFrom_app, prsFrom_app, prsFrom_app]
  simp only [List.length_append]
  have h1 : (prsFrom (pieF (wPies C)) (0 + 42145) 94).length = 94 := prsFrom_full (fun k hk => wPies_in hC (a := 42145) (n := 94) (by decide +kernel) (by omega) (by omega))
  have h2 : (prsFrom (pieF (wPies C)) (0 + 42145 + 94 + 1442) 83).length = 83 := prsFrom_full (fun k hk => wPies_in hC (a := 43681) (n := 83) (by decide +kernel) (by omega) (by omega))
  have e2 : (42145 : Nat) = 41377 + (94 + 674) := by rfl
  have h3 : 94 ≤ (prsFrom (pieF (wPies C)) 0 42145).length := by
    rw [e2, prsFrom_app, prsFrom_app]
    simp only [List.length_append]
    have h3 : (prsFrom (pieF (wPies C)) (0 + 41377) 94).length = 94 := prsFrom_full (fun k hk => wPies_in hC (a := 41377 + k) (n := 1) (by
      unfold wShape
      simp only [List.mem_append]
      exact .inl (.inl (.inl (List.mem_map.2 ⟨k, List.mem_range.2 hk, rfl⟩)))) (by omega) (by omega))
    omega
  omega
end Go.Proofs.YtffhmjlojmoomaaGreatDoor

namespace Go.Proofs.YtffhmjlojmoomaaGreatDoor
open Go.RowKit
set_option linter.unusedVariables false
set_option linter.unusedSimpArgs false

theorem recs_blk {w : World} {base e size : Nat} {v : Value} {L : List (List Value)} (h : Recs w base e size v L) (hl : 1 ≤ L.length) : ∃ g cap, v = .slice (some ⟨g, 0, none⟩) L.length cap ∧ base ≤ g ∧ g < w.heap.size := by
  rcases h.2.2 with ⟨rfl, h1⟩ | ⟨g, cap, cur, rfl, hb, hg, -⟩
  · omega
  · exact ⟨g, cap, rfl, hb, (Array.getElem?_eq_some_iff.1 hg).1⟩
set_option maxHeartbeats 4000000 in
set_option maxRecDepth 100000 in
theorem wrows_any (C : Cst) (hC : Hid (CstOk C)) (w : World) (hT : Hid (Tabs w)) : Calls Tryz.prog 26 #[] w fun e w' => ∃ (g n cap : Nat) (L : List (Nat × Nat)), e = .returned (.slice (some ⟨g, 0, none⟩) n cap) ∧ L.Perm (prsFrom (pieF (wPies C)) 0 1048576) ∧ RecsAt w' (some ⟨g, 0, none⟩) n 2 (L.map prR) ∧ Below w.heap.size w w' := by
  have PI := Lib.hid (fun w => wpieces_any C hC w)
  have HLN := Lib.hid (wPies_len hC.out)
  have NW : Hid (∀ (a : Option Addr) (n cap : Nat) (w : World), RecsAt w a n 4 ((wPies C).map pieR) → n ≤ cap → Tabs w → Calls Tryz.prog 58 #[.slice a n cap] w fun e w' => ∃ v, e = .returned (.tuple #[.agg #[v], .agg #[.int .i64 0, .int .i64 0]]) ∧ TabF w' 0 v (pieF (wPies C)) ∧ Below w.heap.size w w') := Lib.hid (fun a n cap w h hc hT => by
    have hn : n = 252 := by have := h.1; rw [List.length_map, HLN.out] at this; omega
    exact (tnew_F a n cap (wPies C) w (Lib.hid h) hc (by omega) (by omega) (Lib.hid (wPies_ok hC.out)) (Lib.hid (wPies_dis hC.out)) (Lib.hid hT)).mono fun e w' ⟨v, h1, h2, h3⟩ => ⟨v, h1, h2.base (Nat.zero_le _), h3⟩)
  have HMANY := Lib.hid (wPairs_many hC.out)
  have HLE := Lib.hid (prsFrom_len (pieF (wPies C)) 0 1048576)
  have TP := Lib.hid (fun v w h => tpairs_G (B := 0) (pieF (wPies C)) v w h)
  generalize wPies C = P at *
  generalize pieF P = f at *
  generalize prsFrom f 0 1048576 = L at *
  have K := Lib.hid (Below.refl w.heap.size w)
  go_enter Tryz.func26, Tryz.ntmps26
  go_upto_region 2 with (first | (go_at_call 59; (with_reducible refine (PI.out _).mono ?_); rintro e w1 ⟨v, rfl, hv, hb1⟩; obtain ⟨pa, pcap, rfl, hpc, hpr⟩ := hv.at; have PR := Lib.hid hpr; rw [List.length_map, HLN.out] at PR hpc; simp only [List.length_map, HLN.out]; clear hv hpr; replace K := Lib.hid (nextB K.out hb1); clear hb1) | (go_at_call 58; (refine (NW.out _ _ _ _ PR.out hpc (hT.out.below K.out)).mono ?_); rintro e w2 ⟨v, rfl, hv, hb1⟩; obtain ⟨vb, vo, vn, vc, rfl, -⟩ := hv.view; have V := Lib.hid hv; clear hv; replace K := Lib.hid (nextB K.out hb1); clear hb1))
  have T1 := Lib.hid (at_a1 w2 #[.slice (some ⟨vb, vo, none⟩) vn vc] 43 (.cells #[.int .i64 0, .int .i64 0] 26))
  have hb1 := ((Below.refl w2.heap.size w2).alloc (Nat.le_refl _) (.cells #[.slice (some ⟨vb, vo, none⟩) vn vc] 43)).alloc (by simp) (.cells #[.int .i64 0, .int .i64 0] 26)
  replace V := Lib.hid (V.out.below hb1)
  replace K := Lib.hid (nextB K.out hb1); clear hb1
  generalize (w2.alloc (.cells #[.slice (some ⟨vb, vo, none⟩) vn vc] 43)).alloc (.cells #[.int .i64 0, .int .i64 0] 26) = w3 at *
  generalize w2.heap.size = tb at *
  have a0 : w3.cell? ⟨tb, 0, none⟩ = some (.slice (some ⟨vb, vo, none⟩) vn vc) := by rw [cell_at T1.out]; rfl
  have hw3 := Lib.hid K.out.size
  go_upto_region 3 with (go_at_call 29; (with_reducible refine (TP.out _ _ V.out).mono ?_); rintro e w4 ⟨u, rfl, hu, hb1⟩; obtain ⟨g, cap, hu2, hbg, hgg⟩ := recs_blk hu (by rw [List.length_map]; have := HMANY.out; omega); rw [List.length_map] at hu2; subst hu2; have U := Lib.hid hu; clear hu; replace K := Lib.hid (nextB K.out hb1); clear hb1)
  have SF := Lib.hid (psort_any _ g cap L.length L w4 rfl (by have := HLE.out; omega) U.out)
  have hwg : w.heap.size ≤ g := Nat.le_trans hw3.out hbg
  go_wp2_with (go_at_call 60; (with_reducible refine SF.out.mono ?_); rintro e w5 ⟨rfl, L', hp, hr, ho⟩)
  go_ret
  exact ⟨g, _, cap, L', rfl, hp, hr, onlyB K.out ho hwg⟩
end Go.Proofs.YtffhmjlojmoomaaGreatDoor
