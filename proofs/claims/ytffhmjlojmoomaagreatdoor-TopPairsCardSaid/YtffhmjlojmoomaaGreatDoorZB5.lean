/- Layer 8 (big5): the sign of two bytes that stand for one, walked. | Layer 8 (big5): the signs of two bytes, walked. -/
import Derived.Test.YtffhmjlojmoomaaGreatDoorZB2

namespace Go.Proofs.YtffhmjlojmoomaaGreatDoor
open Go.RowKit
set_option linter.unusedVariables false
set_option linter.unusedSimpArgs false

theorem oneF_drop (lead c : Int) (L : List ((Nat × Nat) × List Nat)) (k : Nat) (hk : k < L.length) : oneF lead c (L.drop k) = if (L[k].1.1 : Int) = lead then match atW L[k].2 (c - cellB L[k].1.2) with | some p => some p | none => oneF lead c (L.drop (k + 1)) else oneF lead c (L.drop (k + 1)) := by
  rw [List.drop_eq_getElem_cons hk]
  rfl
theorem cellB_in (x : Int) (h0 : 0 ≤ x) (h1 : x ≤ 255) : -1 ≤ cellB x ∧ cellB x ≤ 156 := by
  unfold cellB
  split
  · omega
  split <;> omega
set_option maxHeartbeats 4000000 in
set_option maxRecDepth 100000 in
theorem one_any (C : Cst) (hC : Hid (CstOk C)) (lead sec : Int) (l0 : 0 ≤ lead) (l9 : lead ≤ 255) (s0 : 0 ≤ sec) (s9 : sec ≤ 255) (w : World) : Calls Tryz.prog 89 #[.int .i64 lead, .int .i64 sec] w fun e w' => e = .returned (.tuple #[.int .i32 ((oneB C lead sec).getD 0 : Nat), .bool (oneB C lead sec).isSome]) ∧ Below w.heap.size w w' := by
  have CE := Lib.hid (fun w => bcell_any sec s0 s9 w)
  obtain ⟨c0, c9⟩ := cellB_in sec s0 s9
  have HO : Hid (oneB C lead sec = if cellB sec < 0 then none else oneF lead (cellB sec) (spB C)) := Lib.hid rfl
  generalize cellB sec = c at *
  go_enter Tryz.func89, Tryz.ntmps89
  by_cases h0 : c < 0
  · rw [if_pos h0] at HO
    go_wp2_with (go_at_call 66; (with_reducible refine (CE.out _).mono ?_); rintro e wx ⟨rfl, rfl⟩)
    go_ret2
    rw [HO.out]
    exact ⟨rfl, Below.refl _ _⟩
  · rw [if_neg h0] at HO
    have SP := Lib.hid (fun w => bspans_any C hC w)
    go_upto_region 5 with (first | (go_at_call 66; (with_reducible refine (CE.out _).mono ?_); rintro e wx ⟨rfl, rfl⟩) | (go_at_call 63; (with_reducible refine (SP.out _).mono ?_); rintro e w1 ⟨rfl, hb1⟩; have K := Lib.hid hb1; clear hb1))
    have HLN := Lib.hid (spB_len hC.out)
    have HOK := Lib.hid (spB_ok hC.out)
    rw [spBA_rows]
    have HIX : Hid (∀ (k : Nat) (hk : k < (spB C).length) w, (Instr.index 103 (.agg ((spB C).map rwB).flatten.toArray) (.int .i64 k)).run Tryz.prog w = .ok (.agg (rwB (spB C)[k]).toArray) w) := Lib.hid (fun k hk w => by
      have h := run_index_rows (P := Tryz.prog) (T := 103) (e := 102) (n := 11) (sz := 3) (L := (spB C).map rwB) (fun r hr => by obtain ⟨x, -, rfl⟩ := List.mem_map.1 hr; rfl) (by rw [List.length_map]; exact HLN.out) Tryz.underlying103 (fun w => by kernel_rfl) (fun w => by kernel_rfl) k (by rw [List.length_map]; exact hk) w
      rw [List.getElem_map] at h
      exact h)
    generalize (Value.agg ((spB C).map rwB).flatten.toArray) = arr at *
    generalize spB C = S at *
    clear CE SP
    go_loopw [16] (fun i wr => ∃ k : Nat, k ≤ 11 ∧ i = .int .i64 k ∧ Hid (oneF lead c S = oneF lead c (S.drop k)) ∧ Hid (Below w.heap.size w wr)) (fun i _ => 11 - (intOf i).toNat)
    case atStart => exact ⟨0, by omega, rfl, Lib.hid (by rw [List.drop_zero]), K⟩
    case round =>
      clear K
      obtain ⟨k, hk, rfl, HS, K⟩ := hrel
      by_cases hlt : k < 11
      · have g3 : (k : Int) < 11 := by omega
        have hkl : k < S.length := by rw [HLN.out]; exact hlt
        have hix := HIX.out k hkl
        have HD := Lib.hid (oneF_drop lead c S k hkl)
        obtain ⟨o1, o2, o3, o4⟩ := HOK.out S[k] (List.getElem_mem hkl)
        have AT := Lib.hid (fun w => bat_any S[k].2 o3 (Lib.hid o4) (c - cellB S[k].1.2) (by have := cellB_in S[k].1.2 (by omega) (by omega); omega) (by have := cellB_in S[k].1.2 (by omega) (by omega); omega) w)
        have CL := Lib.hid (fun w => bcell_any S[k].1.2 (by omega) (by omega) w)
        obtain ⟨d0, d9⟩ := cellB_in S[k].1.2 (by omega) (by omega)
        generalize S[k] = x at *
        clear hkl
        unfold rwB hdR at hix
        generalize x.1.1 = sl at *
        generalize hscc : cellB x.1.2 = sc at *
        clear hscc
        generalize x.1.2 = ss at *
        generalize atW x.2 (c - sc) = pt at *
        generalize listT x.2 = tl at *
        clear o3 o4
        go_upto_region 7 with (fail)
        have P := Lib.hid (at_a0 wr #[.int .i64 sl, .int .i64 ss, .string ⟨tl.toArray⟩] 102)
        have hB := (Below.refl wr.heap.size wr).alloc (Nat.le_refl _) (.cells #[.int .i64 sl, .int .i64 ss, .string ⟨tl.toArray⟩] 102)
        replace K := Lib.hid (nextB K.out hB)
        clear hB hix
        generalize wr.alloc (.cells #[.int .i64 sl, .int .i64 ss, .string ⟨tl.toArray⟩] 102) = w2 at *
        generalize wr.heap.size = lb at *
        obtain ⟨y0, y1, y2⟩ := cells3 (P.out)
        by_cases hll : (sl : Int) = lead
        · rw [if_pos hll] at HD
          go_upto_region 8 with (fail)
          go_quiet (first | (go_at_call 66; exact Calls.quiet_of_same ((CL.out _).mono (fun e w9 h => ⟨h.1, h.2.symm⟩))) | (go_at_call 64; exact Calls.quiet_of_same ((AT.out _).mono (fun e w9 h => ⟨h.1, h.2.symm⟩))))
          have K2 := Lib.hid (show Below w.heap.size w (w2.drewN nq) from belowN K.out nq)
          rcases pt with _ | p
          · go_wp2
            exact ⟨⟨k + 1, by omega, by simp, Lib.hid (HS.out.trans HD.out), K2⟩, by simp [intOf]; omega⟩
          · have HN : Hid (oneB C lead sec = some p) := Lib.hid (HO.out.trans (HS.out.trans HD.out))
            clear HO HS HD
            go_wp2
            go_ret2
            rw [HN.out]
            exact ⟨rfl, K2.out⟩
        · rw [if_neg hll] at HD
          have hl2 : ((sl : Int) = lead) = False := by simp [hll]
          go_wp2
          exact ⟨⟨k + 1, by omega, by simp, Lib.hid (HS.out.trans HD.out), K⟩, by simp [intOf]; omega⟩
      · have g3 : ¬ (k : Int) < 11 := by omega
        have hd0 : S.drop k = [] := List.drop_eq_nil_of_le (by rw [HLN.out]; omega)
        have HN : Hid (oneB C lead sec = none) := Lib.hid (by rw [HO.out, HS.out, hd0]; rfl)
        clear HO HS hd0
        go_wp2
        go_ret2
        rw [HN.out]
        exact ⟨rfl, K.out⟩
end Go.Proofs.YtffhmjlojmoomaaGreatDoor

namespace Go.Proofs.YtffhmjlojmoomaaGreatDoor
open Go.RowKit
set_option linter.unusedVariables false
set_option linter.unusedSimpArgs false

def twR (x : Nat × Nat × Nat) : List Value := [.int .i64 x.1, .int .i32 x.2.1, .int .i32 x.2.2]
def twF (s : Nat) : List (Nat × Nat × Nat) → Option (List Nat)
  | [] => none
  | x :: L => if x.1 = s then some [x.2.1, x.2.2] else twF s L
/-- the signs of two bytes -/
def sgB (C : Cst) (a b : Nat) : Option (List Nat) := match oneB C a b with
  | some p => some [p]
  | none => if a = 136 then twF b twB else none
theorem twBA_rows : twBA = (twB.map twR).flatten.toArray := by rfl
theorem twF_drop (s : Nat) (L : List (Nat × Nat × Nat)) (k : Nat) (hk : k < L.length) : twF s (L.drop k) = if L[k].1 = s then some [L[k].2.1, L[k].2.2] else twF s (L.drop (k + 1)) := by
  rw [List.drop_eq_getElem_cons hk]
  rfl
theorem twB_ok : ∀ x ∈ twB, x.1 < 256 ∧ Sc x.2.1 ∧ Sc x.2.2 ∧ 128 ≤ x.2.1 ∧ 128 ≤ x.2.2 := by unfold Sc; decide
theorem oneF_mem (lead c : Int) (p : Nat) : ∀ L : List ((Nat × Nat) × List Nat), oneF lead c L = some p → ∃ x ∈ L, (x.1.1 : Int) = lead ∧ atW x.2 (c - cellB x.1.2) = some p
  | [], h => by cases h
  | x :: L, h => by
    unfold oneF at h
    by_cases hx : (x.1.1 : Int) = lead
    · rw [if_pos hx] at h
      rcases ha : atW x.2 (c - cellB x.1.2) with _ | q
      · rw [ha] at h
        obtain ⟨y, hy, h1⟩ := oneF_mem lead c p L h
        exact ⟨y, by simp [hy], h1⟩
      · rw [ha] at h
        obtain rfl := Option.some.inj h
        exact ⟨x, by simp, hx, ha⟩
    · rw [if_neg hx] at h
      obtain ⟨y, hy, h1⟩ := oneF_mem lead c p L h
      exact ⟨y, by simp [hy], h1⟩
theorem atW_mem {ns : List Nat} {k : Int} {p : Nat} (h : atW ns k = some p) : p ∈ ns := by
  unfold atW at h
  split at h
  · cases h
  · exact List.mem_of_getElem? h
theorem spB_sc {C : Cst} (hC : CstOk C) : ∀ x ∈ spB C, ∀ n ∈ x.2, Sc n ∧ 128 ≤ n := by
  intro x hx n hn
  obtain ⟨h1, h2⟩ := List.of_mem_zip (show (x.1, x.2) ∈ List.zip hdB C.b5 from hx)
  obtain ⟨h3, h4, h5⟩ := hC.b5M _ h2 n hn
  exact ⟨by unfold Sc; omega, h3⟩
theorem oneB_sc {C : Cst} (hC : CstOk C) {a b : Int} {p : Nat} (h : oneB C a b = some p) : Sc p ∧ 128 ≤ p := by
  unfold oneB at h
  split at h
  · cases h
  · obtain ⟨x, hx, -, h1⟩ := oneF_mem _ _ _ _ h
    exact spB_sc hC x hx p (atW_mem h1)
set_option maxHeartbeats 4000000 in
set_option maxRecDepth 100000 in
theorem bsigns_any (C : Cst) (hC : Hid (CstOk C)) (a b : Nat) (ha : (a : Int) ≤ 255) (hb : (b : Int) ≤ 255) (w : World) : Calls Tryz.prog 39 #[.int .u8 a, .int .u8 b] w fun e w' => e = .returned (.tuple #[.string ⟨(encs ((sgB C a b).getD [])).toArray⟩, .bool (sgB C a b).isSome]) ∧ Below w.heap.size w w' := by
  have ON := Lib.hid (fun w => one_any C hC a b (by omega) (by omega) (by omega) (by omega) w)
  have HS : Hid (sgB C a b = match oneB C a b with | some p => some [p] | none => if a = 136 then twF b twB else none) := Lib.hid rfl
  have HSC : Hid (∀ p, oneB C a b = some p → ∀ q ∈ [p], Sc q) := Lib.hid (fun p h q hq => by obtain rfl := List.mem_singleton.1 hq; exact (oneB_sc hC.out h).1)
  go_enter Tryz.func39, Tryz.ntmps39
  go_upto_region 1 with (fail)
  rcases ho : oneB C a b with _ | p
  · rw [ho] at HS ON
    clear HSC ho
    have TW := Lib.hid (fun w => btwos_any w)
    go_upto_region 5 with (first | (go_at_call 89; (with_reducible refine (ON.out _).mono ?_); rintro e w1 ⟨rfl, hb1⟩; have K := Lib.hid hb1; clear hb1) | (go_at_call 90; (with_reducible refine (TW.out _).mono ?_); rintro e w2 ⟨rfl, hb2⟩; replace K := Lib.hid (nextB K.out hb2); clear hb2))
    rw [twBA_rows]
    have HLN : Hid (twB.length = 4) := Lib.hid rfl
    have HOK := Lib.hid twB_ok
    have HIX : Hid (∀ (k : Nat) (hk : k < twB.length) w, (Instr.index 128 (.agg (twB.map twR).flatten.toArray) (.int .i64 k)).run Tryz.prog w = .ok (.agg (twR twB[k]).toArray) w) := Lib.hid (fun k hk w => by
      have h := run_index_rows (P := Tryz.prog) (T := 128) (e := 127) (n := 4) (sz := 3) (L := twB.map twR) (fun r hr => by obtain ⟨x, -, rfl⟩ := List.mem_map.1 hr; rfl) (by rw [List.length_map]; exact HLN.out) Tryz.underlying128 (fun w => by kernel_rfl) (fun w => by kernel_rfl) k (by rw [List.length_map]; exact hk) w
      rw [List.getElem_map] at h
      exact h)
    generalize (Value.agg (twB.map twR).flatten.toArray) = arr at *
    generalize twB = S at *
    clear ON TW
    go_loopw [25] (fun i wr => ∃ k : Nat, k ≤ 4 ∧ i = .int .i64 k ∧ Hid (sgB C a b = if a = 136 then twF b (S.drop k) else none) ∧ Hid (Below w.heap.size w wr)) (fun i _ => 4 - (intOf i).toNat)
    case atStart => exact ⟨0, by omega, rfl, Lib.hid (by rw [List.drop_zero]; exact HS.out), K⟩
    case round =>
      clear K HS
      obtain ⟨k, hk, rfl, HS, K⟩ := hrel
      by_cases hlt : k < 4
      · have g3 : (k : Int) < 4 := by omega
        have hkl : k < S.length := by rw [HLN.out]; exact hlt
        have hix := HIX.out k hkl
        have HD := Lib.hid (twF_drop b S k hkl)
        obtain ⟨o1, o2, o3, -, -⟩ := HOK.out S[k] (List.getElem_mem hkl)
        generalize S[k] = x at *
        clear hkl
        unfold twR at hix
        have HSC : Hid (∀ p ∈ [x.2.1, x.2.2], Sc p) := Lib.hid (fun p hp => by
          simp only [List.mem_cons, List.not_mem_nil, or_false] at hp
          rcases hp with rfl | rfl
          · exact o2
          · exact o3)
        clear o2 o3
        obtain ⟨x1, x2, x3⟩ := x
        simp only at hix HD o1 HSC
        have o1i : (x1 : Int) ≤ 255 := by omega
        clear o1
        go_upto_region 7 with (fail)
        have P := Lib.hid (at_a0 wr #[.int .i64 x1, .int .i32 x2, .int .i32 x3] 127)
        have hB := (Below.refl wr.heap.size wr).alloc (Nat.le_refl _) (.cells #[.int .i64 x1, .int .i32 x2, .int .i32 x3] 127)
        replace K := Lib.hid (nextB K.out hB)
        clear hB hix
        have hz : wr.heap.size < (wr.alloc (.cells #[.int .i64 x1, .int .i32 x2, .int .i32 x3] 127)).heap.size := by simp
        generalize wr.alloc (.cells #[.int .i64 x1, .int .i32 x2, .int .i32 x3] 127) = w2 at *
        generalize wr.heap.size = lb at *
        obtain ⟨y0, y1, y2⟩ := cells3 (P.out)
        by_cases hll : a = 136
        · have hl1 : ((a : Int) == 136) = true := by simp; omega
          have hl1' : (a : Int) = 136 := by omega
          rw [if_pos hll] at HS
          by_cases hxb : x1 = b
          · rw [if_pos hxb] at HD
            have hx1 : (b : Int) = (x1 : Int) := by omega
            have HN : Hid (sgB C a b = some [x2, x3]) := Lib.hid (HS.out.trans HD.out)
            have HR : Hid (RunesAt w2 (some ⟨lb, 1, none⟩) 2 [x2, x3]) := Lib.hid ⟨rfl, .inr ⟨lb, 1, rfl, hz, fun i hi => by
              match i, hi with
              | 0, _ => exact y1
              | 1, _ => exact y2⟩⟩
            have PT := Lib.hid (ptext_any (some ⟨lb, 1, none⟩) 2 2 [x2, x3] HSC w2 HR (by omega))
            clear HS HD hll
            subst hxb
            go_wp2_with (go_at_call 32; (with_reducible refine PT.out.mono ?_); rintro e w3 ⟨rfl, hb3⟩; replace K := Lib.hid (nextB K.out hb3); clear hb3)
            go_ret2
            rw [HN.out]
            exact ⟨rfl, K.out⟩
          · rw [if_neg hxb] at HD
            have hx1 : ((b : Int) == (x1 : Int)) = false := by simp; omega
            have hx2 : ((b : Int) = (x1 : Int)) = False := by simp; omega
            have HN : Hid (sgB C a b = if a = 136 then twF b (S.drop (k + 1)) else none) := Lib.hid (by rw [if_pos hll]; exact HS.out.trans HD.out)
            clear HS HD hll hxb
            go_wp2
            exact ⟨⟨k + 1, by omega, by simp, HN, K⟩, by simp [intOf]; omega⟩
        · have hl1 : ((a : Int) == 136) = false := by simp; omega
          have hl2 : ((a : Int) = 136) = False := by simp; omega
          rw [if_neg hll] at HS
          have HN : Hid (sgB C a b = if a = 136 then twF b (S.drop (k + 1)) else none) := Lib.hid (by rw [if_neg hll]; exact HS.out)
          clear HS HD hll
          go_wp2
          exact ⟨⟨k + 1, by omega, by simp, HN, K⟩, by simp [intOf]; omega⟩
      · have g3 : ¬ (k : Int) < 4 := by omega
        have hd0 : S.drop k = [] := List.drop_eq_nil_of_le (by rw [HLN.out]; omega)
        have HN : Hid (sgB C a b = none) := Lib.hid (by rw [HS.out, hd0]; simp [twF])
        clear HS hd0
        go_wp2
        go_ret2
        rw [HN.out]
        exact ⟨rfl, K.out⟩
  · have HPC := Lib.hid (HSC.out p ho)
    rw [ho] at HS ON
    clear HSC ho
    have PT := Lib.hid (fun w T => ptext_any (some ⟨w.heap.size, 0, none⟩) 1 1 [p] HPC (w.alloc (.cells #[.int .i32 (p : Nat)] T)) (Lib.hid (RunesAt.one w p T)) (by omega))
    go_wp2_with (first | (go_at_call 89; (with_reducible refine (ON.out _).mono ?_); rintro e w1 ⟨rfl, hb1⟩; have K := Lib.hid hb1; clear hb1) | (go_at_call 32; (with_reducible refine (PT.out _ _).mono ?_); rintro e w3 ⟨rfl, hb3⟩; replace K := Lib.hid (nextB (K.out.alloc K.out.size _) hb3); clear hb3))
    go_ret2
    rw [HS.out]
    exact ⟨rfl, K.out⟩
end Go.Proofs.YtffhmjlojmoomaaGreatDoor
