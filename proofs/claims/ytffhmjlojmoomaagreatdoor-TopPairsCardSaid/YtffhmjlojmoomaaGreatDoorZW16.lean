/- Layer 7 (wansung): pieces, walked. -/
import Derived.Test.YtffhmjlojmoomaaGreatDoorZW10

namespace Go.Proofs.YtffhmjlojmoomaaGreatDoor
open Go.RowKit
set_option linter.unusedVariables false
set_option linter.unusedSimpArgs false

/-- the pieces of a listed row -/
def liPA (a : Nat) (ns : List Nat) : List Pie := (List.range ns.length).map (fun k => ⟨a + k, ns.getD k 0, 1, []⟩)
def wPre (C : Cst) (n : Nat) : List Pie := (List.range n).flatMap (fun i => liPA ((161 + i) * 256 + 161) (lisW C ((161 + i : Nat) : Int)))
def spP (x : Nat × Nat × Nat) : Pie := ⟨x.1, x.2.1, x.2.2, []⟩
/-- the rows' pieces, but for syllables -/
def wPies (C : Cst) : List Pie := wPre C 6 ++ spW.map spP
theorem wPre_succ (C : Cst) (n : Nat) : wPre C (n + 1) = wPre C n ++ liPA ((161 + n) * 256 + 161) (lisW C ((161 + n : Nat) : Int)) := by
  unfold wPre
  rw [List.range_succ, List.flatMap_append]
  simp
theorem liPA_take (a : Nat) (ns : List Nat) (k : Nat) (hk : k < ns.length) : (liPA a ns).take (k + 1) = (liPA a ns).take k ++ [⟨a + k, ns[k], 1, []⟩] := by
  unfold liPA
  rw [List.take_succ_eq_append_getElem (by simpa using hk)]
  simp [List.getElem_map, List.getD_eq_getElem?_getD, hk]
theorem liPA_all (a : Nat) (ns : List Nat) : (liPA a ns).take ns.length = liPA a ns := List.take_of_length_le (by simp [liPA])
theorem one_pieR (x : Pie) : ∀ u ∈ pieR x, u.oneCell' = true := by
  intro u hu
  simp only [pieR, List.mem_cons, List.not_mem_nil, or_false] at hu
  rcases hu with rfl | rfl | rfl | rfl <;> rfl
theorem info_piece : (Tryz.prog.info? 69).map (fun i => (i.zero, i.size, i.bytes)) = some (some (.agg #[.int .i64 0, .int .i32 0, .int .i64 0, .string ⟨#[]⟩]), 4, 40) := by kernel_rfl
theorem wPre_len {C : Cst} (hC : CstOk C) : ∀ n, n ≤ 6 → (wPre C n).length ≤ 1000 * n := by
  intro n
  induction n with
  | zero => intro _; simp [wPre]
  | succ n ih =>
    intro h
    have h1 := ih (by omega)
    have h2 := (lisW_len hC ((161 + n : Nat) : Int)).1
    rw [wPre_succ, List.length_append]
    simp only [liPA, List.length_map, List.length_range]
    omega
theorem recsAt_blk {w : World} {b : Nat} {T : TypeId} {C : Array Value} (h : w.heap[b]? = some (.cells C T (0, 0))) (L : List (List Value)) (size : Nat) (hL : ∀ r ∈ L, r.length = size) (hC : C = L.flatten.toArray) (n : Nat) (hn : n = L.length) : RecsAt w (some ⟨b, 0, none⟩) n size L := by
  subst hC hn
  refine ⟨rfl, hL, .inr ⟨_, _, rfl, (Array.getElem?_eq_some_iff.1 h).1, fun i hi j hj => ?_⟩⟩
  rw [cell_at h, Nat.zero_add, List.getElem?_toArray]
  exact flat_get hL i j hi hj
set_option maxHeartbeats 4000000 in
set_option maxRecDepth 100000 in
theorem spans_blk (w : World) : Calls Tryz.prog 106 #[] w fun e w' => e = .returned (.slice (some ⟨w.heap.size, 0, none⟩) 19 19) ∧ w'.heap[w.heap.size]? = some (.cells (spW.map spR).flatten.toArray 146 (0, 0)) ∧ Below w.heap.size w w' := by
  go_enter Tryz.func106, Tryz.ntmps106
  go_wp2
  go_ret
  exact ⟨rfl, at_a0 w _ _, (Below.refl w.heap.size w).alloc (Nat.le_refl _) _⟩
theorem spR_len (S : List (Nat × Nat × Nat)) : ∀ r ∈ S.map spR, r.length = 3 := fun r hr => by obtain ⟨x, -, rfl⟩ := List.mem_map.1 hr; rfl
set_option maxHeartbeats 4000000 in
set_option maxRecDepth 100000 in
theorem wpieces_any (C : Cst) (hC : Hid (CstOk C)) (w : World) : Calls Tryz.prog 59 #[] w fun e w' => ∃ v, e = .returned v ∧ Recs w' w.heap.size 69 4 v ((wPies C).map pieR) ∧ Below w.heap.size w w' := by
  have K := Lib.hid (Below.refl w.heap.size w)
  have V : Hid (Recs w w.heap.size 69 4 (.slice none 0 0) ((wPre C 0).map pieR)) := Lib.hid (Recs.nil _ _ _ _)
  go_enter Tryz.func59, Tryz.ntmps59
  go_upto_region 3 with (fail)
  go_loopw [1, 2] (fun v i wr => ∃ x : Nat, x ≤ 6 ∧ i = .int .i64 ((161 + x : Nat) : Int) ∧ Hid (Recs wr w.heap.size 69 4 v ((wPre C x).map pieR)) ∧ Hid (Below w.heap.size w wr)) (fun _ i _ => 167 - (intOf i).toNat)
  case atStart => exact ⟨0, by omega, rfl, V, K⟩
  case round =>
    clear V K
    obtain ⟨x, hx, rfl, V, K⟩ := hrel
    by_cases hlt : x < 6
    · obtain ⟨y, hy⟩ : ∃ y, y = 161 + x := ⟨_, rfl⟩
      have HSU := Lib.hid (wPre_succ C x)
      have HPL := wPre_len hC.out x hx
      rw [← hy] at HSU
      rw [← hy]
      have g0 : (y : Int) ≤ 166 := by omega
      have LI := Lib.hid (fun w => listed_any C hC y (by omega) (by omega) w)
      have HLL := lisW_len hC.out y
      generalize lisW C y = ns at *
      obtain ⟨hnl, hnm⟩ := HLL
      obtain ⟨f, hf⟩ : ∃ f : Nat, f = y * 256 + 161 := ⟨_, rfl⟩
      have hf2 : (y : Int) * 256 + 161 = (f : Int) := by omega
      rw [← hf] at HSU
      rw [hf2] at LI
      have AT : Hid (∀ (k : Nat) (hk : k < ns.length) w, Calls Tryz.prog 105 #[.string ⟨(listT ns).toArray⟩, .int .i64 k] w fun e w' => e = .returned (.tuple #[.int .i32 (ns[k] : Nat), .bool true]) ∧ w = w') := Lib.hid (fun k hk w => by
        have h := wat_any ns hnl (Lib.hid hnm) k (by omega) (by omega) w
        have e : atW ns k = some ns[k] := by unfold atW; rw [if_neg (by omega), Int.toNat_natCast, List.getElem?_eq_getElem hk]
        rw [e] at h
        exact h)
      have htl := listT_len ns
      have HNM := Lib.hid hnm
      generalize listT ns = tl at *
      have hq : (tl.length : Int) / 5 = (ns.length : Int) := by omega
      have hf9 : (f : Int) ≤ 50000 := by omega
      have hni : (ns.length : Int) ≤ 1000 := by omega
      have HY := Lib.hid hy
      have HTL := Lib.hid htl
      clear hy hf hf2 hnm htl
      generalize wPre C x = L0 at *
      go_upto_region 7 with (go_at_call 104; (with_reducible refine (LI.out _).mono ?_); rintro e wx ⟨rfl, rfl⟩)
      clear hq LI
      go_loopw [1, 22] (fun v i wr => ∃ j : Nat, j ≤ ns.length ∧ i = .int .i64 j ∧ Hid (Recs wr w.heap.size 69 4 v ((L0 ++ (liPA f ns).take j).map pieR)) ∧ Hid (Below w.heap.size w wr)) (fun _ i _ => ns.length - (intOf i).toNat)
      case atStart => exact ⟨0, by omega, rfl, Lib.hid (by rw [List.take_zero, List.append_nil]; exact V.out), K⟩
      case round =>
        clear V K
        obtain ⟨j, hj, rfl, V, K⟩ := hrel
        by_cases hjl : j < ns.length
        · have g1 : (j : Int) < ns.length := by omega
          have A9 := Lib.hid (AT.out j hjl)
          have HT := Lib.hid (liPA_take f ns j hjl)
          have hp := HNM.out ns[j] (List.getElem_mem hjl)
          generalize ns[j] = p at *
          have hpi : (p : Int) < 65536 := by omega
          have SQ : Hid (∀ w, Calls Tryz.prog 42 #[.int .i64 ((f : Int) + j), .int .i32 p, .int .i64 1] w fun e w' => e = .returned (.agg #[.int .i64 ((f : Int) + j), .int .i32 p, .int .i64 1, .string ⟨#[]⟩]) ∧ Below w.heap.size w w') := Lib.hid (fun w => seq_any (f + j) p 1 w)
          have hlen : ((L0 ++ (liPA f ns).take j).map pieR).length ≤ 1000000000 := by
            rw [List.length_map, List.length_append, List.length_take]
            omega
          generalize hLL : L0 ++ (liPA f ns).take j = LL at *
          have HLL := Lib.hid hLL
          clear hLL hjl
          go_wp2_with (first | (go_at_call 105; (with_reducible refine (A9.out _).mono ?_); rintro e wx ⟨rfl, rfl⟩) | (go_at_call 42; (with_reducible refine (SQ.out _).mono ?_); rintro e w3 ⟨rfl, hb1⟩; replace V := Lib.hid (V.out.below hb1); replace K := Lib.hid (nextB K.out hb1); clear hb1) | (at_builtin; refine wpList_pushR w3 rfl (.tmp 31) (.tmp 37) 96 rfl w.heap.size 69 4 40 _ Tryz.underlying96 info_piece rfl (by decide) (by decide) _ (LL.map pieR) (pieR ⟨f + j, p, 1, []⟩) _ rfl rfl (one_pieR _) (by rfl) V.out (by rfl) hlen K.out.size _ ?_; intro v5 w5 hr5 hg5; have V5 := Lib.hid hr5; have KG := Lib.hid (pk_grown (Below.refl w.heap.size w3) hg5 (fun k e => (V.out.lt k e).1) K.out.size); clear hr5 hg5))
          exact ⟨⟨j + 1, by omega, by simp, Lib.hid (by rw [HT.out, ← List.append_assoc, HLL.out, List.map_append]; exact V5.out), Lib.hid (K.out.trans KG.out)⟩, by simp [intOf]; omega⟩
        · have g1 : ¬ (j : Int) < ns.length := by omega
          obtain rfl : j = ns.length := by omega
          have HA := Lib.hid (liPA_all f ns)
          have hy1 : (y : Int) + 1 = ((161 + (x + 1) : Nat) : Int) := by have := HY.out; omega
          have HY1 := Lib.hid hy1
          clear hy1
          go_wp2
          exact ⟨⟨x + 1, by omega, by rw [HY1.out], Lib.hid (by rw [HSU.out, ← HA.out]; exact V.out), K⟩, by have := HY.out; simp [intOf]; omega⟩
    · obtain rfl : x = 6 := by omega
      have SP := Lib.hid (fun w => spans_blk w)
      have HPL := wPre_len hC.out 6 (Nat.le_refl _)
      have HWP : Hid (wPies C = wPre C 6 ++ spW.map spP) := Lib.hid rfl
      generalize wPre C 6 = L0 at *
      go_upto_region 13 with (go_at_call 106; (with_reducible refine (SP.out _).mono ?_); rintro e w1 ⟨rfl, hra, hb1⟩; have R := Lib.hid hra; replace V := Lib.hid (V.out.below hb1); replace K := Lib.hid (nextB K.out hb1); clear hra hb1)
      have hso := spW_ok
      have HSO := Lib.hid hso.2
      have hln := hso.1
      clear hso SP
      generalize spW = S at *
      generalize wr.heap.size = sb at *
      go_loopw [1, 42] (fun v i wr => ∃ k : Nat, k ≤ 19 ∧ i = .int .i64 k ∧ Hid (Recs wr w.heap.size 69 4 v ((L0 ++ (S.take k).map spP).map pieR)) ∧ Hid (wr.heap[sb]? = some (.cells (S.map spR).flatten.toArray 146 (0, 0))) ∧ Hid (Below w.heap.size w wr)) (fun _ i _ => 19 - (intOf i).toNat)
      case atStart => exact ⟨0, by omega, rfl, Lib.hid (by rw [List.take_zero, List.map_nil, List.append_nil]; exact V.out), R, K⟩
      case round =>
        clear V R K
        obtain ⟨k, hk, rfl, V, R, K⟩ := hrel
        by_cases hlt : k < 19
        · have g3 : (k : Int) < 19 := by omega
          have hkl : k < S.length := by omega
          obtain ⟨g, off, hga, hgb, hcell⟩ := (recsAt_blk R.out (S.map spR) 3 (spR_len S) rfl 19 (by rw [List.length_map, hln])).cell (by omega)
          have hgs : g = sb ∧ off = 0 := by injection hga with hga; injection hga with h1 h2 h3; exact ⟨h1.symm, h2.symm⟩
          rw [hgs.1, hgs.2] at hcell
          clear hga hgb hgs
          have hc2 := hcell k (by rw [List.length_map]; exact hkl)
          have hso := HSO.out S[k] (List.getElem_mem hkl)
          have HT : Hid ((S.take (k + 1)).map spP = (S.take k).map spP ++ [spP S[k]]) := Lib.hid (by rw [List.take_succ_eq_append_getElem hkl, List.map_append]; rfl)
          have q0 : wr.cell? ⟨sb, k * 3, none⟩ = some (.int .i64 S[k].1) := by have := hc2 0 (by decide); rw [List.getElem_map, Nat.zero_add] at this; exact this
          have q1 : wr.cell? ⟨sb, k * 3 + 1, none⟩ = some (.int .i32 S[k].2.1) := by have := hc2 1 (by decide); rw [List.getElem_map, Nat.zero_add] at this; exact this
          have q2 : wr.cell? ⟨sb, k * 3 + 2, none⟩ = some (.int .i64 S[k].2.2) := by have := hc2 2 (by decide); rw [List.getElem_map, Nat.zero_add] at this; exact this
          unfold spP at HT
          obtain ⟨pa, hpa⟩ : ∃ x, x = S[k].1 := ⟨_, rfl⟩
          obtain ⟨pb, hpb⟩ : ∃ x, x = S[k].2.1 := ⟨_, rfl⟩
          obtain ⟨pn, hpn⟩ : ∃ x, x = S[k].2.2 := ⟨_, rfl⟩
          rw [← hpa] at hso q0 HT
          rw [← hpb] at hso q1 HT
          rw [← hpn] at hso q2 HT
          clear hpa hpb hpn hso hcell hc2
          have SQ := Lib.hid (fun w => seq_any pa pb pn w)
          have hlen : ((L0 ++ (S.take k).map spP).map pieR).length ≤ 1000000000 := by
            rw [List.length_map, List.length_append, List.length_map, List.length_take]
            omega
          generalize hLL : L0 ++ (S.take k).map spP = LL at *
          have HLL := Lib.hid hLL
          clear hLL hkl
          go_upto_region 15 with (fail)
          have P := Lib.hid (at_a0 wr #[.int .i64 pa, .int .i32 pb, .int .i64 pn] 146)
          have hB := (Below.refl wr.heap.size wr).alloc (Nat.le_refl _) (.cells #[.int .i64 pa, .int .i32 pb, .int .i64 pn] 146)
          replace R := Lib.hid (block_below R.out hB)
          replace V := Lib.hid (V.out.below hB)
          replace K := Lib.hid (nextB K.out hB)
          clear hB q0 q1 q2
          generalize wr.alloc (.cells #[.int .i64 pa, .int .i32 pb, .int .i64 pn] 146) = w2 at *
          generalize wr.heap.size = lb at *
          obtain ⟨y0, y1, y2⟩ := cells3 (P.out)
          go_wp2_with (first | (go_at_call 42; (with_reducible refine (SQ.out _).mono ?_); rintro e w3 ⟨rfl, hb1⟩; replace V := Lib.hid (V.out.below hb1); replace R := Lib.hid (block_below R.out hb1); replace K := Lib.hid (nextB K.out hb1); clear hb1) | (at_builtin; refine wpList_pushR w3 rfl (.tmp 46) (.tmp 54) 96 rfl w.heap.size 69 4 40 _ Tryz.underlying96 info_piece rfl (by decide) (by decide) _ (LL.map pieR) (pieR ⟨pa, pb, pn, []⟩) _ rfl rfl (one_pieR _) (by rfl) V.out (by rfl) hlen K.out.size _ ?_; intro v5 w5 hr5 hg5; have V5 := Lib.hid hr5; have HG5 := Lib.hid hg5; have KG := Lib.hid (pk_grown (Below.refl w.heap.size w3) hg5 (fun k e => (V.out.lt k e).1) K.out.size); clear hr5 hg5))
          have R5 := Lib.hid ((HG5.out.block sb (Array.getElem?_eq_some_iff.1 R.out).1 (fun e => recs_off V.out R.out (by decide) e.symm)).trans R.out)
          exact ⟨⟨k + 1, by omega, by simp, Lib.hid (by rw [show (S.take (k + 1)).map spP = (S.take k).map spP ++ [⟨pa, pb, pn, []⟩] from HT.out, ← List.append_assoc, HLL.out, List.map_append]; exact V5.out), R5, Lib.hid (K.out.trans KG.out)⟩, by simp [intOf]; omega⟩
        · have g3 : ¬ (k : Int) < 19 := by omega
          have hd0 : S.take k = S := List.take_of_length_le (by omega)
          rw [hd0] at V
          clear hd0
          go_wp2
          go_ret
          exact ⟨_, rfl, by rw [HWP.out]; exact V.out, K.out⟩
end Go.Proofs.YtffhmjlojmoomaaGreatDoor
