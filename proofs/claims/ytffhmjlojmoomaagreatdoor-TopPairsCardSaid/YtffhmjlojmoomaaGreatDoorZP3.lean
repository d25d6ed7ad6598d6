/- Layer 6 (johab): Pairs, walked. | Layer 8 (big5): Pairs, walked. -/
import Derived.Test.YtffhmjlojmoomaaGreatDoorZW17
import Derived.Test.YtffhmjlojmoomaaGreatDoorZP1

namespace Go.Proofs.YtffhmjlojmoomaaGreatDoor
open Go.RowKit
set_option linter.unusedVariables false
set_option linter.unusedSimpArgs false

def jfn' (n : Nat) : Option Nat := jSign (n : Int)
theorem prsFrom_snoc (f : Nat → Option Nat) (a k : Nat) : prsFrom f a (k + 1) = prsFrom f a k ++ (match f (a + k) with | some p => [(a + k, p)] | none => []) := by
  rw [prsFrom_app]
  congr 1
  unfold prsFrom
  rw [List.range'_one, List.filterMap_cons, List.filterMap_nil]
  rcases f (a + k) with _ | p <;> rfl
set_option maxHeartbeats 4000000 in
set_option maxRecDepth 100000 in
theorem jpairs_any (w : World) : Calls Tryz.prog 27 #[] w fun e w' => ∃ v, e = .returned v ∧ Recs w' w.heap.size 34 2 v ((prsFrom jfn' 32768 32768).map prR) ∧ Below w.heap.size w w' := by
  have K := Lib.hid (Below.refl w.heap.size w)
  have V : Hid (Recs w w.heap.size 34 2 (.slice none 0 0) ((prsFrom jfn' 32768 0).map prR)) := Lib.hid (Recs.nil _ _ _ _)
  go_enter Tryz.func27, Tryz.ntmps27
  go_upto_region 3 with (fail)
  go_loopw [1, 2] (fun v i wr => ∃ x k : Nat, x = 32768 + k ∧ k ≤ 32768 ∧ i = .int .i64 x ∧ Hid (Recs wr w.heap.size 34 2 v ((prsFrom jfn' 32768 k).map prR)) ∧ Hid (Below w.heap.size w wr)) (fun _ i _ => 65536 - (intOf i).toNat)
  case atStart => exact ⟨32768, 0, rfl, by omega, rfl, V, K⟩
  case round =>
    clear V K
    obtain ⟨x, k, hx, hk, rfl, V, K⟩ := hrel
    by_cases hlt : x < 65536
    · have g0 : (x : Int) < 65536 := by omega
      have g1 : (0 : Int) ≤ x := by omega
      have HSU := Lib.hid (prsFrom_snoc jfn' 32768 k)
      rw [← hx] at HSU
      have HLE := Lib.hid (prsFrom_len jfn' 32768 k)
      have HX := Lib.hid (And.intro hx (And.intro hk hlt))
      clear hx hk hlt
      obtain ⟨a, ha⟩ : ∃ a : UInt8, (x : Int) / 256 = (a.toNat : Int) := ⟨UInt8.ofNat (x / 256), by rw [UInt8.toNat_ofNat', Nat.mod_eq_of_lt (by have := HX.out; omega)]; omega⟩
      obtain ⟨b, hb⟩ : ∃ b : UInt8, (x : Int) % 256 = (b.toNat : Int) := ⟨UInt8.ofNat x, by rw [UInt8.toNat_ofNat']; omega⟩
      have ha9 := UInt8.toNat_lt a
      have hab : (a.toNat : Int) * 256 + b.toNat = x := by omega
      have hw1 : IntKind.u8.wrap (x : Int) = (b.toNat : Int) := by
        rw [← hb]
        simp [IntKind.wrap, IntKind.bits, IntKind.signed]
      have hw2 : IntKind.u8.wrap (a.toNat : Int) = (a.toNat : Int) := by
        simp [IntKind.wrap, IntKind.bits, IntKind.signed]
        omega
      have JS := Lib.hid (fun w => jsign_any a b w)
      rw [hab] at JS
      clear hab hb
      have hx1 : (x : Int) + 1 = ((x + 1 : Nat) : Int) := rfl
      have HX1 := Lib.hid hx1
      clear hx1
      unfold jfn' at HSU
      rcases hj : jSign (x : Int) with _ | p
      · rw [hj] at JS HSU
        simp only [List.append_nil] at HSU
        clear hj
        go_wp2_with (go_at_call 35; (with_reducible refine (JS.out _).mono ?_); rintro e w1 ⟨rfl, rfl⟩)
        exact ⟨⟨x + 1, k + 1, by have := HX.out; omega, by have := HX.out; omega, by rw [HX1.out], Lib.hid (by rw [show prsFrom jfn' 32768 (k + 1) = prsFrom jfn' 32768 k from HSU.out]; exact V.out), K⟩, by have := HX.out; simp [intOf]; omega⟩
      · rw [hj] at JS HSU
        simp only at HSU
        clear hj
        have hlen : ((prsFrom jfn' 32768 k).map prR).length ≤ 1000000000 := by
          have h1 := HLE.out
          have h2 := HX.out
          rw [List.length_map]
          omega
        have HLN := Lib.hid hlen
        generalize hLL : prsFrom (fun n => jSign (n : Int)) 32768 k = LL at *
        have HLL : Hid (prsFrom jfn' 32768 k = LL) := Lib.hid hLL
        clear hLL hlen
        have V2 : Hid (Recs wr w.heap.size 34 2 u1 (LL.map prR)) := Lib.hid (by rw [← HLL.out]; exact V.out)
        have HLN2 : Hid ((LL.map prR).length ≤ 1000000000) := Lib.hid (by rw [← HLL.out]; exact HLN.out)
        clear V HLN
        go_wp2_with (first | (go_at_call 35; (with_reducible refine (JS.out _).mono ?_); rintro e w1 ⟨rfl, rfl⟩) | (at_builtin; refine wpList_pushR wr rfl (.tmp 19) (.tmp 23) 30 rfl w.heap.size 34 2 16 _ Tryz.underlying30 info_pair rfl (by decide) (by decide) _ (LL.map prR) (prR (x, p)) _ rfl rfl (one_prR _) (by rfl) V2.out (by rfl) HLN2.out K.out.size _ ?_; intro v5 w5 hr5 hg5; have V5 := Lib.hid hr5; have KG := Lib.hid (pk_grown (Below.refl w.heap.size wr) hg5 (fun k e => (V2.out.lt k e).1) K.out.size); clear hr5 hg5))
        exact ⟨⟨x + 1, k + 1, by have := HX.out; omega, by have := HX.out; omega, by rw [HX1.out], Lib.hid (by rw [show prsFrom jfn' 32768 (k + 1) = LL ++ [(x, p)] from HSU.out, List.map_append]; exact V5.out), Lib.hid (K.out.trans KG.out)⟩, by have := HX.out; simp [intOf]; omega⟩
    · have g0 : ¬ (x : Int) < 65536 := by omega
      have HK : Hid (k = 32768) := Lib.hid (by omega)
      clear hx hk hlt
      go_wp2
      go_ret
      exact ⟨_, rfl, by have h := V.out; rw [HK.out] at h; exact h, K.out⟩
end Go.Proofs.YtffhmjlojmoomaaGreatDoor

namespace Go.Proofs.YtffhmjlojmoomaaGreatDoor
open Go.RowKit
set_option linter.unusedVariables false
set_option linter.unusedSimpArgs false

def bRow (x : (Nat × Nat) × List Nat) : List (Nat × Nat) := (List.range x.2.length).map (fun (k : Nat) => (x.1.1 * 256 + (secB (cellB x.1.2 + (k : Int))).toNat, x.2.getD k 0))
theorem bPrs_take (S : List ((Nat × Nat) × List Nat)) (k : Nat) (hk : k < S.length) : bPrs (S.take (k + 1)) = bPrs (S.take k) ++ bRow S[k] := by
  unfold bPrs bRow
  rw [List.take_succ_eq_append_getElem hk, List.flatMap_append]
  simp
theorem bRow_take (x : (Nat × Nat) × List Nat) (k : Nat) (hk : k < x.2.length) : (bRow x).take (k + 1) = (bRow x).take k ++ [(x.1.1 * 256 + (secB (cellB x.1.2 + (k : Int))).toNat, x.2[k])] := by
  unfold bRow
  rw [List.take_succ_eq_append_getElem (by simpa using hk)]
  simp [List.getElem_map, List.getD_eq_getElem?_getD, hk]
theorem bRow_all (x : (Nat × Nat) × List Nat) : (bRow x).take x.2.length = bRow x := List.take_of_length_le (by simp [bRow])
theorem bPrs_le (S : List ((Nat × Nat) × List Nat)) (h : ∀ x ∈ S, x.2.length ≤ 1000) : (bPrs S).length ≤ 1000 * S.length := by
  induction S with
  | nil => simp [bPrs]
  | cons x S ih =>
    have e1 : bPrs (x :: S) = bRow x ++ bPrs S := by simp [bPrs, bRow]
    have h1 := ih (fun y hy => h y (by simp [hy]))
    have h2 := h x (by simp)
    rw [e1, List.length_append, List.length_cons]
    simp only [bRow, List.length_map, List.length_range]
    omega
set_option maxHeartbeats 4000000 in
set_option maxRecDepth 100000 in
theorem bpairs_any (C : Cst) (hC : Hid (CstOk C)) (w : World) : Calls Tryz.prog 28 #[] w fun e w' => ∃ v, e = .returned v ∧ Recs w' w.heap.size 34 2 v ((bPrs (spB C)).map prR) ∧ Below w.heap.size w w' := by
  obtain ⟨R0, hR0⟩ : ∃ R0, R0 = bPrs (spB C) := ⟨_, rfl⟩
  rw [← hR0]
  have HR0 := Lib.hid hR0
  clear hR0
  have K := Lib.hid (Below.refl w.heap.size w)
  have V : Hid (Recs w w.heap.size 34 2 (.slice none 0 0) ((bPrs ((spB C).take 0)).map prR)) := Lib.hid (Recs.nil _ _ _ _)
  have SP := Lib.hid (fun w => bspans_any C hC w)
  have HLN := Lib.hid (spB_len hC.out)
  have HOK := Lib.hid (spB_ok hC.out)
  have HCE := Lib.hid (spB_cells hC.out)
  have HIX : Hid (∀ (k : Nat) (hk : k < (spB C).length) w, (Instr.index 103 (.agg (spBA C)) (.int .i64 k)).run Tryz.prog w = .ok (.agg (rwB (spB C)[k]).toArray) w) := Lib.hid (fun k hk w => by
    rw [spBA_rows]
    have h := run_index_rows (P := Tryz.prog) (T := 103) (e := 102) (n := 11) (sz := 3) (L := (spB C).map rwB) (fun r hr => by obtain ⟨x, -, rfl⟩ := List.mem_map.1 hr; rfl) (by rw [List.length_map]; exact HLN.out) Tryz.underlying103 (fun w => by kernel_rfl) (fun w => by kernel_rfl) k (by rw [List.length_map]; exact hk) w
    rw [List.getElem_map] at h
    exact h)
  go_enter Tryz.func28, Tryz.ntmps28
  go_upto_region 3 with (go_at_call 63; (with_reducible refine (SP.out _).mono ?_); rintro e w1 ⟨rfl, hb1⟩; replace V := Lib.hid (V.out.below hb1); replace K := Lib.hid (nextB K.out hb1); clear hb1)
  generalize (Value.agg (spBA C)) = arr at *
  generalize spB C = S at *
  clear SP
  go_loopw [1, 8] (fun v i wr => ∃ k : Nat, k ≤ 11 ∧ i = .int .i64 k ∧ Hid (Recs wr w.heap.size 34 2 v ((bPrs (S.take k)).map prR)) ∧ Hid (Below w.heap.size w wr)) (fun _ i _ => 11 - (intOf i).toNat)
  case atStart => exact ⟨0, by omega, rfl, V, K⟩
  case round =>
    clear V K
    obtain ⟨k, hk, rfl, V, K⟩ := hrel
    by_cases hlt : k < 11
    · have g3 : (k : Int) < 11 := by omega
      have hkl : k < S.length := by rw [HLN.out]; exact hlt
      have hix := HIX.out k hkl wr
      have HT := Lib.hid (bPrs_take S k hkl)
      have HPL : Hid ((bPrs (S.take k)).length ≤ 11000) := Lib.hid (by
        have h := bPrs_le (S.take k) (fun x hx => (HOK.out x (List.mem_of_mem_take hx)).2.2.1)
        rw [List.length_take] at h
        omega)
      obtain ⟨o1, o2, o3, o4⟩ := HOK.out S[k] (List.getElem_mem hkl)
      obtain ⟨q1, q2⟩ := HCE.out S[k] (List.getElem_mem hkl)
      generalize S[k] = x at *
      generalize bPrs (S.take k) = L0 at *
      clear hkl
      have CL := Lib.hid (fun w => bcell_any x.1.2 (by omega) (by omega) w)
      unfold rwB hdR at hix
      have HRT := Lib.hid (bRow_take x)
      have HRA := Lib.hid (bRow_all x)
      have HRL : Hid ((bRow x).length ≤ 1000) := Lib.hid (by simp [bRow]; exact o3)
      generalize bRow x = RW at *
      have AT : Hid (∀ (j : Nat) (hj : j < x.2.length) w, Calls Tryz.prog 64 #[.string ⟨(listT x.2).toArray⟩, .int .i64 j] w fun e w' => e = .returned (.tuple #[.int .i32 (x.2[j] : Nat), .bool true]) ∧ w = w') := Lib.hid (fun j hj w => by
        have h := bat_any x.2 o3 (Lib.hid o4) j (by omega) (by omega) w
        have e : atW x.2 j = some x.2[j] := by unfold atW; rw [if_neg (by omega), Int.toNat_natCast, List.getElem?_eq_getElem hj]
        rw [e] at h
        exact h)
      have HO4 := Lib.hid o4
      have htl := listT_len x.2
      generalize listT x.2 = tl at *
      generalize x.2 = ns at *
      generalize x.1.1 = sl at *
      generalize cellB x.1.2 = sc at *
      generalize x.1.2 = ss at *
      have hq : (tl.length : Int) / 5 = (ns.length : Int) := by omega
      have hni : (ns.length : Int) ≤ 1000 := by omega
      have o1' : (sl : Int) < 256 := by omega
      have HTL := Lib.hid (And.intro htl o3)
      clear o4 htl o3
      go_upto_region 5 with (fail)
      have P := Lib.hid (at_a0 wr #[.int .i64 sl, .int .i64 ss, .string ⟨tl.toArray⟩] 102)
      have hB := (Below.refl wr.heap.size wr).alloc (Nat.le_refl _) (.cells #[.int .i64 sl, .int .i64 ss, .string ⟨tl.toArray⟩] 102)
      replace K := Lib.hid (nextB K.out hB)
      replace V := Lib.hid (V.out.below hB)
      clear hB hix
      generalize wr.alloc (.cells #[.int .i64 sl, .int .i64 ss, .string ⟨tl.toArray⟩] 102) = w2 at *
      generalize wr.heap.size = lb at *
      obtain ⟨y0, y1, y2⟩ := cells3 (P.out)
      go_upto_region 6 with (fail)
      clear hq y0 y1 y2
      go_loopw [1, 15] (fun v i wr => ∃ j : Nat, j ≤ ns.length ∧ i = .int .i64 j ∧ Hid (Recs wr w.heap.size 34 2 v ((L0 ++ RW.take j).map prR)) ∧ Hid (wr.heap[lb]? = some (.cells #[.int .i64 sl, .int .i64 ss, .string ⟨tl.toArray⟩] 102 (0, 0))) ∧ Hid (Below w.heap.size w wr)) (fun _ i _ => ns.length - (intOf i).toNat)
      case atStart => exact ⟨0, by omega, rfl, Lib.hid (by rw [List.take_zero, List.append_nil]; exact V.out), P, K⟩
      case round =>
        clear V P K
        obtain ⟨j, hj, rfl, V, P, K⟩ := hrel
        by_cases hjl : j < ns.length
        · have g1 : (j : Int) < ns.length := by omega
          have A9 := Lib.hid (AT.out j hjl)
          have HT2 := Lib.hid (HRT.out j hjl)
          have hp := HO4.out ns[j] (List.getElem_mem hjl)
          generalize ns[j] = p at *
          have hpi : (p : Int) < 65536 := by omega
          have hlen : ((L0 ++ RW.take j).map prR).length ≤ 1000000000 := by
            have h1 := HPL.out
            have h2 := HRL.out
            rw [List.length_map, List.length_append, List.length_take]
            omega
          generalize hLL : L0 ++ RW.take j = LL at *
          have HLL := Lib.hid hLL
          clear hLL hjl
          obtain ⟨y0, y1, y2⟩ := cells3 (P.out)
          go_upto_region 9 with (go_at_call 64; (with_reducible refine (A9.out _).mono ?_); rintro e wx ⟨rfl, rfl⟩)
          clear y0 y1 y2
          obtain ⟨y0, y1, y2⟩ := cells3 (P.out)
          have SE := Lib.hid (fun w => bsecond_any (sc + j) (by omega) (by omega) w)
          obtain ⟨s0, s9⟩ := secB_in (sc + j) (by omega) (by omega)
          generalize secB (sc + (j : Int)) = sv at *
          obtain ⟨sn, rfl⟩ : ∃ sn : Nat, sv = sn := ⟨sv.toNat, by omega⟩
          rw [Int.toNat_natCast] at HT2
          have hor : bits .or .i64 ((sl : Int) * 256) (sn : Int) = ((sl * 256 + sn : Nat) : Int) := or_byte_int sl sn (by omega) (by omega) s0 s9
          have sc9 : sc ≤ 157 := by omega
          have j9 : (j : Int) ≤ 1000 := by omega
          have wsi : IntKind.i64.wrap (sc + (j : Int)) = sc + (j : Int) := IntWalk.i64_in _ (by omega)
          have wsl : IntKind.i64.wrap ((sl : Int) * 256) = (sl : Int) * 256 := IntWalk.i64_in _ (by omega)
          have CLB : Hid (∀ w, Calls Tryz.prog 66 #[.int .i64 ss] w fun e w' => e = .returned (.int .i64 sc) ∧ Below w.heap.size w w') := Lib.hid (fun w => (CL.out w).mono fun e w' ⟨h1, h2⟩ => ⟨h1, h2 ▸ Below.refl _ _⟩)
          have SEB : Hid (∀ w, Calls Tryz.prog 65 #[.int .i64 (sc + (j : Int))] w fun e w' => e = .returned (.int .i64 sn) ∧ Below w.heap.size w w') := Lib.hid (fun w => (SE.out w).mono fun e w' ⟨h1, h2⟩ => ⟨h1, h2 ▸ Below.refl _ _⟩)
          go_region_law (first | (go_simp; go_at_call 66; (with_reducible refine (CLB.out _).mono ?_); rintro e w4 ⟨rfl, hb4⟩; have k4 : Hid (Below wr.heap.size wr w4) := Lib.hid (by first | exact hb4 | exact drewBu hb4); have V4 := Lib.hid (V.out.below k4.out); have P4 := Lib.hid (block_below P.out k4.out); clear hb4; obtain ⟨y0, y1, y2⟩ := cells3 (P4.out)) | (go_simp; go_at_call 65; (with_reducible refine (SEB.out _).mono ?_); rintro e w5 ⟨rfl, hb5⟩; have k5 : Hid (Below w4.heap.size w4 w5) := Lib.hid (by first | exact hb5 | exact drewBu hb5); have V5 := Lib.hid (V4.out.below k5.out); have P5 := Lib.hid (block_below P4.out k5.out); have K5 := Lib.hid (nextB (nextB K.out k4.out) k5.out); have hbs := K5.out.size; clear hb5; obtain ⟨y0, y1, y2⟩ := cells3 (P5.out)) | (have _chk := V5; refine step_pushR w5 rfl (.tmp 25) (.tmp 38) 30 rfl w.heap.size 34 2 16 _ Tryz.underlying30 info_pair rfl (by decide) (by decide) u1 (LL.map prR) (prR (sl * 256 + sn, p)) _ (by rfl) rfl (one_prR _) (by rfl) V5.out (by rfl) hlen hbs _ ?_; intro v2 w6 hr2 hg2; have V6 := Lib.hid hr2; have HG6 := Lib.hid hg2; clear hr2 hg2))
          all_goals
            have P6 := Lib.hid ((HG6.out.block lb (Array.getElem?_eq_some_iff.1 P5.out).1 (fun e => recs_off V5.out P5.out (by decide) e.symm)).trans P5.out)
            have KG := Lib.hid (pk_grown (Below.refl w.heap.size w5) HG6.out (fun k e => (V5.out.lt k e).1) hbs)
            clear y0 y1 y2
            go_wp2
            exact ⟨⟨j + 1, by omega, by simp, Lib.hid (by rw [HT2.out, ← List.append_assoc, HLL.out, List.map_append]; exact V6.out), P6, Lib.hid (K5.out.trans KG.out)⟩, by simp [intOf]; omega⟩
        · have g1 : ¬ (j : Int) < ns.length := by omega
          obtain rfl : j = ns.length := by omega
          go_wp2
          exact ⟨⟨k + 1, by omega, by simp, Lib.hid (by rw [HT.out, ← HRA.out]; exact V.out), K⟩, by simp [intOf]; omega⟩
    · have g3 : ¬ (k : Int) < 11 := by omega
      have hd0 : S.take k = S := List.take_of_length_le (by rw [HLN.out]; omega)
      rw [hd0] at V
      clear hd0
      go_wp2
      go_ret
      exact ⟨_, rfl, by rw [HR0.out]; exact V.out, K.out⟩
end Go.Proofs.YtffhmjlojmoomaaGreatDoor
