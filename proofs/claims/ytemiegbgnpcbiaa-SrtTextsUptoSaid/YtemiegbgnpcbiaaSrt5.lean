/- Subtitles (srt): the document's pieces, walked. -/
import Derived.Test.YtemiegbgnpcbiaaSrt4
import Derived.Test.YtemiegbgnpcbiaaLine7
namespace Go.Proofs.Ytemiegbgnpcbiaa
open Go.RowKit
set_option linter.unusedVariables false

theorem info_rPiece : (Try.prog.info? 50).map (fun i => (i.zero, i.size, i.bytes)) = some (some (.agg #[.bool false, .string ⟨#[]⟩, .string ⟨#[]⟩]), 3, 40) := by kernel_rfl

set_option maxHeartbeats 1000000 in
set_option maxRecDepth 100000 in
theorem rput_any (base : Nat) (v : Value) (L : List Pc) (s : List UInt8) (w : World) (h : Recs w base 50 3 v (L.map pcR)) (hb : base ≤ w.heap.size) (hl : L.length ≤ 1000000000) :
    Calls Try.prog 38 #[v, .string ⟨s.toArray⟩] w fun e w' => ∃ v', e = .returned v' ∧ Recs w' base 50 3 v' (L.map pcR ++ [pcR (markL s)]) ∧ w.grownBy w' v.ownBlock := by
  have HR := Lib.hid h
  have hll : (L.map pcR).length ≤ 1000000000 := by rw [List.length_map]; exact hl
  clear h
  go_enter Try.func38, Try.ntmps38
  go_wp2_with (at_builtin; refine wpList_pushR w rfl (.tmp 5) (.tmp 8) 45 rfl base 50 3 40 _ Try.underlying45 info_rPiece rfl (by decide) (by decide) v (L.map pcR) (pcR (markL s)) _ (by rfl) rfl (one_pcR _) (by rfl) HR.out (by rfl) hll hb _ ?_; intro v2 w2 hr2 hg2)
  go_ret
  exact ⟨_, rfl, hr2, hg2⟩

set_option maxHeartbeats 1000000 in
set_option maxRecDepth 100000 in
theorem rwrite_any (base : Nat) (v : Value) (L : List Pc) (s : List UInt8) (w : World) (h : Recs w base 50 3 v (L.map pcR)) (hb : base ≤ w.heap.size) (hl : L.length ≤ 1000000000) :
    Calls Try.prog 39 #[v, .string ⟨#[116, 101, 120, 116]⟩, .string ⟨s.toArray⟩] w fun e w' => ∃ v', e = .returned v' ∧ Recs w' base 50 3 v' (L.map pcR ++ [pcR (sayP s)]) ∧ w.grownBy w' v.ownBlock := by
  have HR := Lib.hid h
  have hll : (L.map pcR).length ≤ 1000000000 := by rw [List.length_map]; exact hl
  clear h
  go_enter Try.func39, Try.ntmps39
  go_wp2_with (at_builtin; refine wpList_pushR w rfl (.tmp 7) (.tmp 11) 45 rfl base 50 3 40 _ Try.underlying45 info_rPiece rfl (by decide) (by decide) v (L.map pcR) (pcR (sayP s)) _ (by rfl) rfl (one_pcR _) (by rfl) HR.out (by rfl) hll hb _ ?_; intro v2 w2 hr2 hg2)
  go_ret
  exact ⟨_, rfl, hr2, hg2⟩

def RParseSays (t : List UInt8) (w : World) (e : Ending) (w' : World) : Prop :=
  match readS t with
  | .error a => e = .returned (.tuple #[.slice none 0 0, .int .i64 a]) ∧ Below w.heap.size w w'
  | .ok (cnt, acc) => ∃ v, e = .returned (.tuple #[v, .int .i64 (-1)]) ∧ Recs w' w.heap.size 50 3 v (acc.map pcR) ∧ Below w.heap.size w w'
theorem rparse_err {t : List UInt8} {a : Nat} (h : walkS (linesOf t 0) 0 0 [] = .error a) : readS t = .error a := by unfold readS; rw [h]
theorem rparse_ok {t : List UInt8} {st cnt : Nat} {acc : List Pc} (h : walkS (linesOf t 0) 0 0 [] = .ok (st, cnt, acc)) : readS t = if st = 1 then .error t.length else .ok (cnt, acc) := by unfold readS; rw [h]

set_option maxHeartbeats 6000000 in
set_option maxRecDepth 100000 in
theorem rparse_any (t : List UInt8) (w : World) (ht : t.length ≤ 100000) : Calls Try.prog 24 #[.string ⟨t.toArray⟩] w (RParseSays t w) := by
  have C1 := Lib.hid (fun w => rlines_any t w (by omega))
  have hcount := lines_count t.length t 0 (Nat.le_refl _)
  have hbd := fun k => lnAll_le (linesOf t 0) (k + 1)
  rw [(lines_ok t.length t 0 (Nat.le_refl _)).1] at hbd
  have HBD := Lib.hid hbd
  have HE := Lib.hid (fun a h => rparse_err (t := t) (a := a) h)
  have HO := Lib.hid (fun st cnt acc h => rparse_ok (t := t) (st := st) (cnt := cnt) (acc := acc) h)
  clear hbd
  generalize linesOf t 0 = L at *
  go_enter Try.func24, Try.ntmps24
  go_wp2_with (go_at_call 12; refine (C1.out _).mono ?_; rintro e w1 ⟨v1, rfl, hr1, hb1⟩; obtain ⟨a1, cap1, rfl, hv1⟩ := lines_at hr1; have HV1 := Lib.hid hv1; have HB1 := Lib.hid hb1; clear hr1 hb1 hv1)
  have hsw := HB1.out.size
  go_loopw [4, 6, 7] (fun v s i wr => ∃ (k st cnt : Nat) (acc : List Pc), k ≤ L.length ∧ st ≤ 2 ∧ cnt ≤ k ∧ acc.length ≤ 2 * k ∧ s = .int .i64 st ∧ i = .int .i64 k ∧ Hid (walkS (L.drop k) st cnt acc = walkS L 0 0 []) ∧
    Hid (Recs wr w1.heap.size 50 3 v (acc.map pcR)) ∧ Hid (Below w1.heap.size w1 wr)) (fun _ _ i _ => L.length - (intOf i).toNat)
  case atStart => exact ⟨0, 0, 0, [], by omega, by omega, by omega, by simp, rfl, rfl, Lib.hid rfl, Lib.hid (Recs.nil _ _ _ _), Lib.hid (Below.refl _ _)⟩
  case round =>
    obtain ⟨k, st, cnt, acc, hk, hst, hcnt, hacc, rfl, rfl, HA0, HR, HB⟩ := hrel
    by_cases hlt : k < L.length
    · have h0 : (k : Int) < L.length := by omega
      obtain ⟨b0, o0, rfl, hb0, c0', c1', c2'⟩ := lines_cells HV1.out k hlt
      have hbk := HBD.out k
      rw [lnAll_take L k hlt, List.length_append, List.length_append] at hbk
      have hA := HA0.out
      rw [List.drop_eq_getElem_cons hlt, walkS] at hA
      generalize L[k].t = a at *
      generalize L[k].e = b at *
      generalize L[k].a = na at *
      have c0 := (HB.out.cell (p := ⟨b0, o0 + k * 3, none⟩) hb0).trans c0'
      have c1 := (HB.out.cell (p := ⟨b0, o0 + k * 3 + 1, none⟩) hb0).trans c1'
      have c2 := (HB.out.cell (p := ⟨b0, o0 + k * 3 + 2, none⟩) hb0).trans c2'
      have hal : a.length ≤ 1000000000 := by omega
      have CPa := Lib.hid (fun w1' : World => rput_any w1.heap.size _ _ a wr HR.out (by have := HB.out.size; omega) (by omega))
      have CWa := Lib.hid (fun w1' : World => rwrite_any w1.heap.size _ _ a wr HR.out (by have := HB.out.size; omega) (by omega))
      have hva := HR.out.lt
      clear HA0
      by_cases h1 : st = 1
      · subst h1
        have hS : stepS 1 cnt a = if timesL a then some (2, cnt, [markL a]) else none := by simp [stepS]
        have CT := Lib.hid (fun w => rtimes_any a w hal)
        unfold TimesSays at CT
        rcases hT : timesL a with _ | _
        · rw [hT] at CT hS
          simp only [Bool.false_eq_true, if_false] at hS
          rw [hS] at hA
          simp only at hA
          have HA := Lib.hid (HE.out _ hA.symm)
          clear hA hS hT
          go_wp2_with (go_at_call 27; refine (CT.out _).mono ?_; rintro e w2 ⟨rfl, hb2⟩; have e2 := (hb2.cell (p := ⟨b0, o0 + k * 3 + 2, none⟩) (Nat.lt_of_lt_of_le hb0 HB.out.size)).trans c2)
          go_quiet (fail)
          go_wp2
          go_ret2
          unfold RParseSays
          rw [HA.out]
          exact ⟨rfl, below_drewN (nextB (HB1.out.trans (HB.out.mono hsw)) hb2) _⟩
        · rw [hT] at CT hS
          simp only [if_true] at hS
          rw [hS] at hA
          simp only at hA
          have HA := Lib.hid hA
          clear hA hS hT
          have CPb := Lib.hid (fun w2 (hb2 : Below wr.heap.size wr w2) => rput_any w1.heap.size _ _ a w2 (HR.out.below hb2) (by have := HB.out.size; have := hb2.size; omega) (by omega))
          go_upto_region 22 with (first | (go_at_call 27; refine (CT.out _).mono ?_; rintro e w2 ⟨rfl, hb2⟩) | (go_at_call 38; refine (CPb.out w2 hb2).mono ?_; rintro e w3 ⟨v3, rfl, hr3, hg3⟩))
          have hq : Recs w3 w1.heap.size 50 3 v3 ((acc ++ [markL a]).map pcR) := by rw [List.map_append]; exact hr3
          have hbq : Below w1.heap.size w1 w3 := grown_below (HB.out.trans (hb2.mono HB.out.size)) hg3 (fun j e => (hva j e).1)
          clear CPa CWa CPb CT hr3 hg3 hb2 HR HB c0 c1 c2
          have HQ := Lib.hid hq
          have HBQ := Lib.hid hbq
          clear hq hbq
          have d0 := (HBQ.out.cell (p := ⟨b0, o0 + k * 3 + 1, none⟩) hb0).trans c1'
          by_cases hbe : b = []
          · subst hbe
            go_wp2
            exact ⟨⟨k + 1, 2, cnt, (acc ++ [markL a]), by omega, by omega, by omega, by simp; omega, by simp, by simp, Lib.hid (by have hA := HA.out; simp only [endP, if_true, List.append_nil] at hA; simpa using hA), Lib.hid HQ.out, Lib.hid HBQ.out⟩, by simp [intOf]; omega⟩
          · have hbE : b.isEmpty = false := by cases b; exact absurd rfl hbe; rfl
            have CP := Lib.hid (fun w1' : World => rput_any w1.heap.size _ _ b w3 HQ.out (by have := HBQ.out.size; omega) (by simp; omega))
            have hvb := HQ.out.lt
            go_wp2_with (go_at_call 38; refine (CP.out w1).mono ?_; rintro e w7 ⟨v7, rfl, hr7, hg7⟩)
            exact ⟨⟨k + 1, 2, cnt, (acc ++ [markL a]) ++ [markL b], by omega, by omega, by omega, by simp; omega, by simp, by simp, Lib.hid (by have hA := HA.out; rw [endP, if_neg hbe] at hA; simpa using hA), Lib.hid (by rw [List.map_append]; exact hr7), Lib.hid (grown_below HBQ.out hg7 (fun j e => (hvb j e).1))⟩, by simp [intOf]; omega⟩
      · have t1 : ((st : Int) == 1) = false := by simp; omega
        by_cases h2 : a = []
        · subst h2
          have hS : stepS st cnt [] = some (0, cnt, []) := by simp [stepS, h1]
          rw [hS] at hA
          simp only at hA
          have HA := Lib.hid hA
          clear hA hS
          have hq : Recs wr w1.heap.size 50 3 u4 ((acc ++ []).map pcR) := by rw [List.append_nil]; exact HR.out
          have HQ := Lib.hid hq
          have HBQ := HB
          by_cases h3 : st = 2
          · subst h3
            go_upto_region 22 with (fail)
            clear CPa CWa HR c0 c1 c2 hq
            have d0 := (HBQ.out.cell (p := ⟨b0, o0 + k * 3 + 1, none⟩) hb0).trans c1'
            by_cases hbe : b = []
            · subst hbe
              go_wp2
              exact ⟨⟨k + 1, 0, cnt, (acc ++ []), by omega, by omega, by omega, by simp; omega, by simp, by simp, Lib.hid (by have hA := HA.out; simp only [endP, if_true, List.append_nil] at hA; simpa using hA), Lib.hid HQ.out, Lib.hid HBQ.out⟩, by simp [intOf]; omega⟩
            · have hbE : b.isEmpty = false := by cases b; exact absurd rfl hbe; rfl
              have CP := Lib.hid (fun w1' : World => rput_any w1.heap.size _ _ b wr HQ.out (by have := HBQ.out.size; omega) (by simp; omega))
              have hvb := HQ.out.lt
              go_wp2_with (go_at_call 38; refine (CP.out w1).mono ?_; rintro e w7 ⟨v7, rfl, hr7, hg7⟩)
              exact ⟨⟨k + 1, 0, cnt, (acc ++ []) ++ [markL b], by omega, by omega, by omega, by simp; omega, by simp, by simp, Lib.hid (by have hA := HA.out; rw [endP, if_neg hbe] at hA; simpa using hA), Lib.hid (by rw [List.map_append]; exact hr7), Lib.hid (grown_below HBQ.out hg7 (fun j e => (hvb j e).1))⟩, by simp [intOf]; omega⟩
          · obtain rfl : st = 0 := by omega
            go_upto_region 22 with (fail)
            clear CPa CWa HR c0 c1 c2 hq
            have d0 := (HBQ.out.cell (p := ⟨b0, o0 + k * 3 + 1, none⟩) hb0).trans c1'
            by_cases hbe : b = []
            · subst hbe
              go_wp2
              exact ⟨⟨k + 1, 0, cnt, (acc ++ []), by omega, by omega, by omega, by simp; omega, by simp, by simp, Lib.hid (by have hA := HA.out; simp only [endP, if_true, List.append_nil] at hA; simpa using hA), Lib.hid HQ.out, Lib.hid HBQ.out⟩, by simp [intOf]; omega⟩
            · have hbE : b.isEmpty = false := by cases b; exact absurd rfl hbe; rfl
              have CP := Lib.hid (fun w1' : World => rput_any w1.heap.size _ _ b wr HQ.out (by have := HBQ.out.size; omega) (by simp; omega))
              have hvb := HQ.out.lt
              go_wp2_with (go_at_call 38; refine (CP.out w1).mono ?_; rintro e w7 ⟨v7, rfl, hr7, hg7⟩)
              exact ⟨⟨k + 1, 0, cnt, (acc ++ []) ++ [markL b], by omega, by omega, by omega, by simp; omega, by simp, by simp, Lib.hid (by have hA := HA.out; rw [endP, if_neg hbe] at hA; simpa using hA), Lib.hid (by rw [List.map_append]; exact hr7), Lib.hid (grown_below HBQ.out hg7 (fun j e => (hvb j e).1))⟩, by simp [intOf]; omega⟩
        · have hE : a.isEmpty = false := by cases a; exact absurd rfl h2; rfl
          by_cases h3 : st = 2
          · subst h3
            have hS : stepS 2 cnt a = some (2, cnt, [sayP a]) := by simp [stepS, h2]
            rw [hS] at hA
            simp only at hA
            have HA := Lib.hid hA
            clear hA hS
            go_upto_region 22 with (go_at_call 39; refine (CWa.out w1).mono ?_; rintro e w3 ⟨v3, rfl, hr3, hg3⟩)
            have hq : Recs w3 w1.heap.size 50 3 v3 ((acc ++ [sayP a]).map pcR) := by rw [List.map_append]; exact hr3
            have hbq : Below w1.heap.size w1 w3 := grown_below HB.out hg3 (fun j e => (hva j e).1)
            clear CPa CWa hr3 hg3 HR HB c0 c1 c2
            have HQ := Lib.hid hq
            have HBQ := Lib.hid hbq
            clear hq hbq
            have d0 := (HBQ.out.cell (p := ⟨b0, o0 + k * 3 + 1, none⟩) hb0).trans c1'
            by_cases hbe : b = []
            · subst hbe
              go_wp2
              exact ⟨⟨k + 1, 2, cnt, (acc ++ [sayP a]), by omega, by omega, by omega, by simp; omega, by simp, by simp, Lib.hid (by have hA := HA.out; simp only [endP, if_true, List.append_nil] at hA; simpa using hA), Lib.hid HQ.out, Lib.hid HBQ.out⟩, by simp [intOf]; omega⟩
            · have hbE : b.isEmpty = false := by cases b; exact absurd rfl hbe; rfl
              have CP := Lib.hid (fun w1' : World => rput_any w1.heap.size _ _ b w3 HQ.out (by have := HBQ.out.size; omega) (by simp; omega))
              have hvb := HQ.out.lt
              go_wp2_with (go_at_call 38; refine (CP.out w1).mono ?_; rintro e w7 ⟨v7, rfl, hr7, hg7⟩)
              exact ⟨⟨k + 1, 2, cnt, (acc ++ [sayP a]) ++ [markL b], by omega, by omega, by omega, by simp; omega, by simp, by simp, Lib.hid (by have hA := HA.out; rw [endP, if_neg hbe] at hA; simpa using hA), Lib.hid (by rw [List.map_append]; exact hr7), Lib.hid (grown_below HBQ.out hg7 (fun j e => (hvb j e).1))⟩, by simp [intOf]; omega⟩
          · obtain rfl : st = 0 := by omega
            have hS : stepS 0 cnt a = if digitsL a then some (1, cnt + 1, [markL a]) else none := by simp [stepS, h2]
            have CD := Lib.hid (fun w => rdigits_any a w hal)
            rcases hD : digitsL a with _ | _
            · rw [hD] at CD hS
              simp only [Bool.false_eq_true, if_false] at hS
              rw [hS] at hA
              simp only at hA
              have HA := Lib.hid (HE.out _ hA.symm)
              clear hA hS hD
              go_wp2_with (go_at_call 17; refine (CD.out _).mono ?_; rintro e w2 ⟨rfl, rfl⟩)
              go_quiet (fail)
              go_wp2
              go_ret2
              unfold RParseSays
              rw [HA.out]
              exact ⟨rfl, below_drewN (HB1.out.trans (HB.out.mono hsw)) _⟩
            · rw [hD] at CD hS
              simp only [if_true] at hS
              rw [hS] at hA
              simp only at hA
              have HA := Lib.hid hA
              clear hA hS hD
              go_upto_region 22 with (first | (go_at_call 17; refine (CD.out _).mono ?_; rintro e w2 ⟨rfl, rfl⟩) | (go_at_call 38; refine (CPa.out w1).mono ?_; rintro e w3 ⟨v3, rfl, hr3, hg3⟩))
              have hq : Recs w3 w1.heap.size 50 3 v3 ((acc ++ [markL a]).map pcR) := by rw [List.map_append]; exact hr3
              have hbq : Below w1.heap.size w1 w3 := grown_below HB.out hg3 (fun j e => (hva j e).1)
              clear CPa CWa CD hr3 hg3 HR HB c0 c1 c2
              have HQ := Lib.hid hq
              have HBQ := Lib.hid hbq
              clear hq hbq
              have d0 := (HBQ.out.cell (p := ⟨b0, o0 + k * 3 + 1, none⟩) hb0).trans c1'
              by_cases hbe : b = []
              · subst hbe
                go_wp2
                exact ⟨⟨k + 1, 1, (cnt + 1), (acc ++ [markL a]), by omega, by omega, by omega, by simp; omega, by simp, by simp, Lib.hid (by have hA := HA.out; simp only [endP, if_true, List.append_nil] at hA; simpa using hA), Lib.hid HQ.out, Lib.hid HBQ.out⟩, by simp [intOf]; omega⟩
              · have hbE : b.isEmpty = false := by cases b; exact absurd rfl hbe; rfl
                have CP := Lib.hid (fun w1' : World => rput_any w1.heap.size _ _ b w3 HQ.out (by have := HBQ.out.size; omega) (by simp; omega))
                have hvb := HQ.out.lt
                go_wp2_with (go_at_call 38; refine (CP.out w1).mono ?_; rintro e w7 ⟨v7, rfl, hr7, hg7⟩)
                exact ⟨⟨k + 1, 1, (cnt + 1), (acc ++ [markL a]) ++ [markL b], by omega, by omega, by omega, by simp; omega, by simp, by simp, Lib.hid (by have hA := HA.out; rw [endP, if_neg hbe] at hA; simpa using hA), Lib.hid (by rw [List.map_append]; exact hr7), Lib.hid (grown_below HBQ.out hg7 (fun j e => (hvb j e).1))⟩, by simp [intOf]; omega⟩
    · have h0 : ¬ (k : Int) < L.length := by omega
      have hA := HA0.out
      rw [List.drop_eq_nil_of_le (by omega), walkS] at hA
      have hr := HO.out _ _ _ hA.symm
      by_cases h1 : st = 1
      · rw [if_pos h1] at hr
        have HRD := Lib.hid hr
        clear hA hr
        subst h1
        go_wp2
        go_ret2
        unfold RParseSays
        rw [HRD.out]
        exact ⟨rfl, HB1.out.trans (HB.out.mono hsw)⟩
      · rw [if_neg h1] at hr
        have HRD := Lib.hid hr
        clear hA hr
        have t1 : ((st : Int) == 1) = false := by simp; omega
        go_wp2
        go_ret2
        unfold RParseSays
        rw [HRD.out]
        exact ⟨_, rfl, HR.out.base hsw, HB1.out.trans (HB.out.mono hsw)⟩
end Go.Proofs.Ytemiegbgnpcbiaa
