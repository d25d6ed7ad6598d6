/- The document's bytes of a sign; all pairs of a charset, walked. | TopPairs walked: what a charset lists is what it does. -/
import Derived.Test.YtffhmjlojmoomaaGreatDoorZP3

namespace Go.Proofs.YtffhmjlojmoomaaGreatDoor
open Go.RowKit
set_option linter.unusedVariables false
set_option linter.unusedSimpArgs false

theorem conv_lit (w : World) (C : Array Value) (l : List UInt8) (hC : C = (cellsOf l).toArray) (n : Nat) (hn : n = l.length) (h9 : n ≤ 100) : (convert 35 9 (.slice (some ⟨w.heap.size, 0, none⟩) n n)).run Tryz.prog (w.alloc (.cells C 5)) = .ok (.string ⟨l.toArray⟩) (w.alloc (.cells C 5)) := by
  have hB : World.ownsRow (w.alloc (.cells C 5)) w.heap.size 5 1 (.slice (some ⟨w.heap.size, 0, none⟩) n n) n (cellsOf l) := by
    refine ⟨by rw [cellsOf_length]; omega, .inr ⟨w.heap.size, n, C, rfl, Nat.le_refl _, at_a0 _ _ _, Nat.le_refl _, by unfold maxLen; omega, ?_, ?_⟩⟩
    · rw [hC]
      simp [cellsOf_length, hn]
    · rw [hC]
      simp only [Nat.mul_one]
      exact List.take_of_length_le (by rw [cellsOf_length]; omega)
  exact ownsRow_bytes hB Tryz.underlying35 Tryz.underlying5 Tryz.underlying9
set_option maxHeartbeats 4000000 in
set_option maxRecDepth 100000 in
theorem rbytes_any (p : Nat) (hp : Sc p) (w : World) : Calls Tryz.prog 10 #[.int .i32 p] w fun e w' => e = .returned (.string ⟨(encR p).toArray⟩) ∧ Below w.heap.size w w' := by
  have g9 : (p : Int) ≤ 1114111 := by unfold Sc at hp; omega
  by_cases h1 : p < 128
  · have g1 : (p : Int) < 128 := by omega
    have he := encR_one h1
    have hcv := conv_lit w #[.int .u8 (p : Int)] (encR p) (by rw [he]; simp [cellsOf]; omega) 1 (by rw [he]; rfl) (by decide)
    clear he
    clear hp h1
    go_enter Tryz.func10, Tryz.ntmps10
    go_wp2; go_ret; exact ⟨rfl, (Below.refl w.heap.size w).alloc (Nat.le_refl _) _⟩
  by_cases h2 : p < 2048
  · have g1 : ¬ (p : Int) < 128 := by omega
    have g2 : (p : Int) < 2048 := by omega
    have he := encR_two (p := p) (by omega) h2
    have hcv := conv_lit w #[.int .u8 (192 + (p : Int) / 64), .int .u8 (128 + (p : Int) % 64)] (encR p) (by rw [he]; simp [cellsOf]; omega) 2 (by rw [he]; rfl) (by decide)
    clear he
    clear hp h1 h2
    go_enter Tryz.func10, Tryz.ntmps10
    go_wp2; go_ret; exact ⟨rfl, (Below.refl w.heap.size w).alloc (Nat.le_refl _) _⟩
  by_cases h3 : p < 65536
  · have g1 : ¬ (p : Int) < 128 := by omega
    have g2 : ¬ (p : Int) < 2048 := by omega
    have g3 : (p : Int) < 65536 := by omega
    have he := encR_three (p := p) (by unfold Sc at hp; omega)
    have hcv := conv_lit w #[.int .u8 (224 + (p : Int) / 4096), .int .u8 (128 + (p : Int) / 64 % 64), .int .u8 (128 + (p : Int) % 64)] (encR p) (by rw [he]; simp [cellsOf]; omega) 3 (by rw [he]; rfl) (by decide)
    clear he
    clear hp h1 h2 h3
    go_enter Tryz.func10, Tryz.ntmps10
    go_wp2; go_ret; exact ⟨rfl, (Below.refl w.heap.size w).alloc (Nat.le_refl _) _⟩
  · have g1 : ¬ (p : Int) < 128 := by omega
    have g2 : ¬ (p : Int) < 2048 := by omega
    have g3 : ¬ (p : Int) < 65536 := by omega
    have he := encR_four (p := p) (by omega) (by unfold Sc at hp; omega)
    have hcv := conv_lit w #[.int .u8 (240 + (p : Int) / 262144), .int .u8 (128 + (p : Int) / 4096 % 64), .int .u8 (128 + (p : Int) / 64 % 64), .int .u8 (128 + (p : Int) % 64)] (encR p) (by rw [he]; simp [cellsOf]; omega) 4 (by rw [he]; rfl) (by decide)
    clear he
    clear hp h1 h2 h3
    go_enter Tryz.func10, Tryz.ntmps10
    go_wp2; go_ret; exact ⟨rfl, (Below.refl w.heap.size w).alloc (Nat.le_refl _) _⟩
/-- all pairs of a charset -/
def PairsAt (C : Cst) (c : Nat) (w' : World) (v : Value) : Prop := ∃ (g off n cap : Nat) (L : List (Nat × Nat)), v = .slice (some ⟨g, off, none⟩) n cap ∧ PairsOk C c L ∧ RecsAt w' (some ⟨g, off, none⟩) n 2 (L.map prR)
theorem pairsAt_recs {C : Cst} {c base : Nat} {w : World} {v : Value} {L : List (Nat × Nat)} (h : Recs w base 34 2 v (L.map prR)) (ok : PairsOk C c L) : PairsAt C c w v := by
  have h1 := ok.many
  obtain ⟨a, cap, rfl, hc, hr⟩ := h.at
  rcases hr.2.2 with h0 | ⟨b, off, rfl, hb, hcell⟩
  · have h2 := hr.1
    rw [List.length_map] at h0
    omega
  · exact ⟨b, off, _, cap, L, rfl, ok, hr⟩
set_option maxHeartbeats 4000000 in
set_option maxRecDepth 100000 in
theorem tpairsC_any (C : Cst) (hC : Hid (CstOk C)) (c : Nat) (hc : c < 7) (w : World) (hT : Hid (Tabs w)) : Calls Tryz.prog 9 #[.int .i64 c] w fun e w' => ∃ v, e = .returned v ∧ PairsAt C c w' v ∧ Below w.heap.size w w' := by
  by_cases h4 : c < 4
  · have OF := Lib.hid (fun w h => sof_F C hC c h4 w h)
    have TP : Hid (∀ v w, TabF w 0 v (chF C c) → Calls Tryz.prog 29 #[.agg #[v]] w fun e w' => ∃ u, e = .returned u ∧ PairsAt C c w' u ∧ Below w.heap.size w w') := Lib.hid (fun v w h => (tpairs_F (chF C c) v w h (fun k hk => chF_none hC.out c k hk)).mono fun e w' ⟨u, h1, h2, h3⟩ => ⟨u, h1, pairsAt_recs h2 (sPairs_ok hC.out c h4), h3⟩)
    generalize PairsAt C c = PA at *
    generalize chF C c = f at *
    have K := Lib.hid (Below.refl w.heap.size w)
    clear hc
    obtain rfl | rfl | rfl | rfl : c = 0 ∨ c = 1 ∨ c = 2 ∨ c = 3 := by omega
    all_goals
      go_enter Tryz.func9, Tryz.ntmps9
      go_upto_region 9 with (go_at_call 17; (refine (OF.out _ (Lib.hid (hT.out.below K.out))).mono ?_); rintro e w1 ⟨v, rfl, hv, hb1⟩; obtain ⟨vb, vo, vn, vc, rfl, -⟩ := hv.view; have V := Lib.hid (hv.base (Nat.zero_le _)); clear hv; replace K := Lib.hid (nextB K.out hb1); clear hb1)
      go_wp2_with (go_at_call 29; (refine (TP.out _ _ (V.out.below ((Below.refl w1.heap.size w1).alloc (Nat.le_refl _) _))).mono ?_); rintro e w3 ⟨u, rfl, hu, hb1⟩; have U := Lib.hid hu; clear hu; replace hb1 := nextB ((Below.refl w1.heap.size w1).alloc (Nat.le_refl _) _) hb1; replace K := Lib.hid (nextB K.out hb1); clear hb1)
      go_ret
      exact ⟨_, rfl, U.out, K.out⟩
  · have WR : Hid (c = 4 → ∀ w, Tabs w → Calls Tryz.prog 26 #[] w fun e w' => ∃ v, e = .returned v ∧ PairsAt C c w' v ∧ Below w.heap.size w w') := Lib.hid (fun e w h => (wrows_any C hC w (Lib.hid h)).mono fun e' w' ⟨g, n, cap, L, h1, h2, h3, h4⟩ => ⟨_, h1, ⟨g, 0, n, cap, L, rfl, by rw [e]; exact (wPairs_ok hC.out).perm h2, h3⟩, h4⟩)
    have JP : Hid (c = 5 → ∀ w, Calls Tryz.prog 27 #[] w fun e w' => ∃ v, e = .returned v ∧ PairsAt C c w' v ∧ Below w.heap.size w w') := Lib.hid (fun e w => (jpairs_any w).mono fun e' w' ⟨v, h1, h2, h3⟩ => ⟨v, h1, pairsAt_recs h2 (by rw [e]; exact jPairs_ok C), h3⟩)
    have BP : Hid (c = 6 → ∀ w, Calls Tryz.prog 28 #[] w fun e w' => ∃ v, e = .returned v ∧ PairsAt C c w' v ∧ Below w.heap.size w w') := Lib.hid (fun e w => (bpairs_any C hC w).mono fun e' w' ⟨v, h1, h2, h3⟩ => ⟨v, h1, pairsAt_recs h2 (by rw [e]; exact bPairs_ok hC.out), h3⟩)
    generalize PairsAt C c = PA at *
    have K := Lib.hid (Below.refl w.heap.size w)
    obtain rfl | rfl | rfl : c = 4 ∨ c = 5 ∨ c = 6 := by omega
    · go_enter Tryz.func9, Tryz.ntmps9
      go_wp2_with (go_at_call 26; (refine (WR.out rfl _ (hT.out.below K.out)).mono ?_); rintro e w3 ⟨u, rfl, hu, hb1⟩; have U := Lib.hid hu; clear hu; replace K := Lib.hid (nextB K.out hb1); clear hb1)
      go_ret
      exact ⟨_, rfl, U.out, K.out⟩
    · go_enter Tryz.func9, Tryz.ntmps9
      go_wp2_with (go_at_call 27; (refine (JP.out rfl _).mono ?_); rintro e w3 ⟨u, rfl, hu, hb1⟩; have U := Lib.hid hu; clear hu; replace K := Lib.hid (nextB K.out hb1); clear hb1)
      go_ret
      exact ⟨_, rfl, U.out, K.out⟩
    · go_enter Tryz.func9, Tryz.ntmps9
      go_wp2_with (go_at_call 28; (refine (BP.out rfl _).mono ?_); rintro e w3 ⟨u, rfl, hu, hb1⟩; have U := Lib.hid hu; clear hu; replace K := Lib.hid (nextB K.out hb1); clear hb1)
      go_ret
      exact ⟨_, rfl, U.out, K.out⟩
end Go.Proofs.YtffhmjlojmoomaaGreatDoor

namespace Go.Proofs.YtffhmjlojmoomaaGreatDoor
open Go.RowKit Go.Maps
set_option linter.unusedVariables false
set_option linter.unusedSimpArgs false

set_option maxRecDepth 100000 in
theorem map_zero {w : World} {b n : Nat} {g : Nat → Option Nat} (h : MapAt (MRI 32 21 3 Tryz.underlying32 Tryz.underlying21 Tryz.underlying3 (fun w => by kernel_rfl) : MK Tryz.prog Nat Nat) w b n g) (p : Nat) (hp : p ≤ 1114111) (hg : g p = none) : (Instr.lookup 32 (.map (some b)) (.int .i32 (p : Nat)) false).run Tryz.prog w = .ok (.int .i64 0) w := by
  obtain ⟨D, h1, h2⟩ := h
  obtain ⟨c, hrun, hat, hwc⟩ := h1.lookup_int (int_keyed Tryz.underlying21) Tryz.underlying32 Tryz.underlying3 (by kernel_rfl) (keyOf_int_mk Tryz.underlying21 (runes_wf p hp))
  obtain ⟨-, e2⟩ := h2 p hp
  rw [hg] at e2
  have e3 : D.atKey (.int .i32 (p : Int)) (.lit (.int .i64 0)) = .lit (.int .i64 0) := e2
  rw [e3] at hat
  injection hat with hat
  injection hat with h0 hat
  rw [← hat] at hrun
  exact hrun
theorem RecsAt.onlyC {w w' : World} {g off c n size : Nat} {L : List (List Value)} (h : RecsAt w (some ⟨g, off, none⟩) n size L) (ho : Only c w w') (hc : g ≠ c) : RecsAt w' (some ⟨g, off, none⟩) n size L := by
  refine ⟨h.1, h.2.1, ?_⟩
  rcases h.2.2 with h0 | ⟨b, o, ha, hlt, hcell⟩
  · exact .inl h0
  · have hb : b = g := by
      injection ha with ha
      injection ha with ha
      exact ha.symm
    refine .inr ⟨b, o, ha, Nat.lt_of_lt_of_le hlt ho.size, fun i hi j hj => ?_⟩
    rw [World.cell?_of_block (ho.block b hlt (fun e => hc (by injection e with e; omega)))]
    exact hcell i hi j hj
theorem pr_cells {w : World} {b off n : Nat} {L : List (Nat × Nat)} (h : RecsAt w (some ⟨b, off, none⟩) n 2 (L.map prR)) (k : Nat) (hk : k < L.length) :
    w.cell? ⟨b, off + k * 2, none⟩ = some (.int .i64 L[k].1) ∧ w.cell? ⟨b, off + k * 2 + 1, none⟩ = some (.int .i32 L[k].2) := by
  have hl : L.length = n := by simpa using h.1
  rcases h.2.2 with h0 | ⟨b', off', ha, hb, hc⟩
  · omega
  · injection ha with ha
    injection ha with ha1 ha2
    subst ha1 ha2
    have hc' : ∀ j, j < 2 → w.cell? ⟨b, off + (k * 2 + j), none⟩ = (prR L[k])[j]? := fun j hj => by rw [hc k (by simpa using hk) j hj]; simp
    exact ⟨hc' 0 (by decide), hc' 1 (by decide)⟩
theorem encs_sing (p : Nat) : encs [p] = encR p := by simp [encs]
set_option maxHeartbeats 4000000 in
set_option maxRecDepth 100000 in
theorem toppairs_any (C : Cst) (hC : Hid (CstOk C)) (a : UInt8) (w : World) (hT : Hid (Tabs w)) (hD : Hid (DeB w)) (m : Int) (hm : Hid (Mx m w)) : Calls Tryz.prog 4 #[.int .u8 a.toNat] w fun e w' => e = .returned (.bool true) ∧ Below w.heap.size w w' := by
  have AW := Lib.hid (fun w h1 h2 h3 => awake09 C hC w h1 h2 m h3)
  have hmm := @run_makeMap Tryz.prog
  have K := Lib.hid (Below.refl w.heap.size w)
  have ha := UInt8.toNat_lt a
  go_enter Tryz.func4, Tryz.ntmps4
  go_upto_region 4 with (go_at_call 5; (with_reducible refine (AW.out _ (Lib.hid (hT.out.below K.out)) (Lib.hid (hD.out.below K.out)) (Lib.hid (hm.out.below K.out))).mono ?_); rintro e w1 ⟨rfl, hb1⟩; replace K := Lib.hid (nextB K.out hb1); clear hb1)
  clear AW
  have ec : ((a.toNat : Int) % 7) = ((a.toNat % 7 : Nat) : Int) := by omega
  have hc : a.toNat % 7 < 7 := by omega
  rw [ec]
  clear ec
  generalize a.toNat % 7 = c at *
  have TP := Lib.hid (fun w h => tpairsC_any C hC c hc w h)
  go_upto_region 5 with (go_at_call 9; (with_reducible refine (TP.out _ (Lib.hid (hT.out.below K.out))).mono ?_); rintro e w2 ⟨v, rfl, hv, hb1⟩; obtain ⟨sg, so, n, cap, L, rfl, hok, hr⟩ := hv; have OK := Lib.hid hok; have R := Lib.hid hr; clear hok hr; replace K := Lib.hid (nextB K.out hb1); clear hb1)
  clear TP
  have hsg : sg < w2.heap.size := by
    rcases R.out.2.2 with h0 | ⟨b, o, hb, hlt, -⟩
    · have h1 := R.out.1
      have h2 := OK.out.many
      rw [List.length_map] at h1
      omega
    · injection hb with hb
      injection hb with hb
      omega
  have HLN : Hid (L.length = n) := Lib.hid (by simpa using R.out.1)
  have hn9 : (n : Int) ≤ 2000000 := by have := OK.out.few; have := HLN.out; omega
  have hn2 : (200 : Int) < n := by have := OK.out.many; have := HLN.out; omega
  go_upto_region 6 with (fail)
  have MP := Lib.hid (MapAt.made (MRI 32 21 3 Tryz.underlying32 Tryz.underlying21 Tryz.underlying3 (fun w => by kernel_rfl) : MK Tryz.prog Nat Nat) w2)
  have hb1 := (Below.refl w2.heap.size w2).alloc (Nat.le_refl _) (.map #[] 0)
  replace R := Lib.hid (R.out.below hb1)
  have hwm : w.heap.size ≤ w2.heap.size := K.out.size
  replace K := Lib.hid (nextB K.out hb1); clear hb1
  generalize w2.alloc (.map #[] 0) = w3 at *
  generalize w2.heap.size = mb at *
  have HWM := Lib.hid hwm
  clear hwm
  go_upto_region 7 with (fail)
  go_loopw [23] (fun i wr => ∃ k : Nat, k ≤ n ∧ i = .int .i64 k ∧ Hid (∃ gg nn, nn ≤ k ∧ (∀ q s, gg q = some s → q ∈ (L.take k).map (·.2)) ∧ MapAt (MRI 32 21 3 Tryz.underlying32 Tryz.underlying21 Tryz.underlying3 (fun w => by kernel_rfl) : MK Tryz.prog Nat Nat) wr mb nn gg) ∧ Hid (RecsAt wr (some ⟨sg, so, none⟩) n 2 (L.map prR)) ∧ Hid (Below w.heap.size w wr)) (fun i _ => n - (intOf i).toNat)
  case atStart => exact ⟨0, by omega, rfl, Lib.hid ⟨_, 0, by omega, (fun q s h => by cases h), MP.out⟩, R, K⟩
  case round =>
    clear MP R K
    obtain ⟨k, hk, rfl, MPX, R, K⟩ := hrel
    by_cases hlt : k < n
    · have g0 : (k : Int) < n := by omega
      have hkl : k < L.length := by rw [HLN.out]; exact hlt
      obtain ⟨gg, nn, hnn, HG, hmp⟩ := MPX.out
      have MP := Lib.hid hmp
      clear hmp MPX
      have HGG := Lib.hid HG
      clear HG
      obtain ⟨c0, c1⟩ := pr_cells R.out k hkl
      obtain ⟨hsc, hx1, hx2, hx3⟩ := OK.out.ok L[k] (List.getElem_mem hkl)
      have HNO : Hid (gg L[k].2 = none) := Lib.hid (by
        rcases hg : gg L[k].2 with _ | s
        · rfl
        · exfalso
          have h1 := HGG.out _ _ hg
          obtain ⟨y, hy, he⟩ := List.mem_map.1 h1
          obtain ⟨i, hi, rfl⟩ := List.getElem_of_mem hy
          rw [List.getElem_take] at he
          rw [List.length_take] at hi
          have hp := List.pairwise_iff_getElem.1 OK.out.points i k (by rw [List.length_map]; omega) (by rw [List.length_map]; exact hkl) (by omega)
          rw [List.getElem_map, List.getElem_map] at hp
          exact hp he)
      have HTK : Hid ((L.take (k + 1)).map (·.2) = (L.take k).map (·.2) ++ [L[k].2]) := Lib.hid (by rw [List.take_succ_eq_append_getElem hkl, List.map_append]; rfl)
      have HER : Hid (EncR C c (encs [L[k].2]) (bts c L[k].1)) := Lib.hid ⟨[L[k].2], fun q hq => by obtain rfl := List.mem_singleton.1 hq; exact hsc, rfl, hx3⟩
      obtain ⟨cd, hcd⟩ : ∃ cd, cd = L[k].1 := ⟨_, rfl⟩
      obtain ⟨p, hp⟩ : ∃ p, p = L[k].2 := ⟨_, rfl⟩
      rw [← hcd] at c0 hx1 hx2 HER
      rw [← hp] at c1 hsc HNO HTK HER
      clear hcd hp hx3 hkl
      have hp9 : p ≤ 1114111 := by unfold Sc at hsc; omega
      have hpl : (encs [p]).length ≤ 60 := by have := encs_len [p]; simp at this; omega
      have DX := Lib.hid (fun w h1 h2 => cdec_of C hC c (by omega) hpl HER.out w h1 h2)
      have EX := Lib.hid (fun w h1 h2 => cenc_of C hC c (by omega) hpl HER.out w h1 m h2)
      have RB := Lib.hid (fun w => rbytes_any p hsc w)
      rw [encs_sing] at DX EX
      have HBT : Hid (bts c cd = if c < 4 then [UInt8.ofNat cd] else bigL cd 2) := Lib.hid rfl
      generalize bts c cd = bb at *
      generalize encR p = pl at *
      clear hpl HER hsc
      have hcdi : (cd : Int) < 65536 := by omega
      have HX2 := Lib.hid hx2
      clear hx1 hx2
      go_upto_region 9 with (fail)
      have P := Lib.hid (at_a0 wr #[.int .i64 cd, .int .i32 p] 34)
      have hb1 := (Below.refl wr.heap.size wr).alloc (Nat.le_refl _) (.cells #[.int .i64 cd, .int .i32 p] 34)
      clear c0 c1
      replace MP := Lib.hid (MP.out.below hb1); replace R := Lib.hid (R.out.below hb1); replace K := Lib.hid (nextB K.out hb1); clear hb1
      generalize wr.alloc (.cells #[.int .i64 cd, .int .i32 p] 34) = w4 at *
      generalize wr.heap.size = pb at *
      obtain ⟨y0, y1⟩ := cells2 (P.out)
      obtain ⟨ub, hub⟩ : ∃ ub, ub = UInt8.ofNat cd := ⟨_, rfl⟩
      have hubn : (ub.toNat : Int) = (cd : Int) % 256 := by rw [hub, UInt8.toNat_ofNat']; omega
      obtain ⟨ua, hua⟩ : ∃ ua, ua = UInt8.ofNat (cd / 256) := ⟨_, rfl⟩
      have huan : (cd : Int) / 256 = (ua.toNat : Int) := by rw [hua, UInt8.toNat_ofNat']; omega
      have hw1 : IntKind.u8.wrap (cd : Int) = (ub.toNat : Int) := by
        rw [hubn]
        simp [IntKind.wrap, IntKind.bits, IntKind.signed]
      have hua9 := UInt8.toNat_lt ua
      have hw2 : IntKind.u8.wrap (ua.toNat : Int) = (ua.toNat : Int) := by
        simp [IntKind.wrap, IntKind.bits, IntKind.signed]
        omega
      have hcd0 : (0 : Int) ≤ cd := by omega
      have HUB := Lib.hid (And.intro hub hua)
      clear hubn hub hua
      have hcv := conv_lit w4 #[.int .u8 ub.toNat] [ub] (by simp [cellsOf]) 1 rfl (by decide)
      by_cases h4 : c < 4
      · have g4 : ¬ (3 : Int) < c := by omega
        have HB2 : Hid (bb = [ub]) := Lib.hid (by rw [HBT.out, if_pos h4, HUB.out.1])
        go_upto_region 12 with (fail)
        have hb1 := (Below.refl w4.heap.size w4).alloc (Nat.le_refl _) (.cells #[.int .u8 ub.toNat] 5)
        replace P := Lib.hid (block_below P.out hb1); replace MP := Lib.hid (MP.out.below hb1); replace R := Lib.hid (R.out.below hb1); replace K := Lib.hid (nextB K.out hb1); clear hb1
        clear hcv y0 y1
        generalize w4.alloc (.cells #[.int .u8 ub.toNat] 5) = w5 at *
        have e := HB2.out
        subst e
        have BD := Lib.hid (fun w => bad_any 0 0 w)
        rw [show ((0 : Int) != 0) = false by rfl] at BD
        go_upto_region 13 with (go_at_call 8; (with_reducible refine (DX.out _ (hT.out.below K.out) (hD.out.below K.out)).mono ?_); rintro e w6 ⟨rfl, hb1⟩; replace P := Lib.hid (block_below P.out hb1); replace MP := Lib.hid (MP.out.below hb1); replace R := Lib.hid (R.out.below hb1); replace K := Lib.hid (nextB K.out hb1); clear hb1)
        have G1 := Lib.hid (at_a0 w6 #[.int .i64 0, .int .i64 0] 26)
        have hb1 := (Below.refl w6.heap.size w6).alloc (Nat.le_refl _) (.cells #[.int .i64 0, .int .i64 0] 26)
        replace P := Lib.hid (block_below P.out hb1); replace MP := Lib.hid (MP.out.below hb1); replace R := Lib.hid (R.out.below hb1); replace K := Lib.hid (nextB K.out hb1); clear hb1
        generalize w6.alloc (.cells #[.int .i64 0, .int .i64 0] 26) = w7 at *
        generalize w6.heap.size = b1 at *
        go_upto_region 14 with (go_at_call 6; (with_reducible refine (EX.out _ (hT.out.below K.out) (hm.out.below K.out)).mono ?_); rintro e w8 ⟨rfl, hb1⟩; replace G1 := Lib.hid (block_below G1.out hb1); replace P := Lib.hid (block_below P.out hb1); replace MP := Lib.hid (MP.out.below hb1); replace R := Lib.hid (R.out.below hb1); replace K := Lib.hid (nextB K.out hb1); clear hb1)
        have G2 := Lib.hid (at_a0 w8 #[.int .i64 0, .int .i64 0] 26)
        have hb1 := (Below.refl w8.heap.size w8).alloc (Nat.le_refl _) (.cells #[.int .i64 0, .int .i64 0] 26)
        replace G1 := Lib.hid (block_below G1.out hb1)
        replace P := Lib.hid (block_below P.out hb1); replace MP := Lib.hid (MP.out.below hb1); replace R := Lib.hid (R.out.below hb1); replace K := Lib.hid (nextB K.out hb1); clear hb1
        generalize w8.alloc (.cells #[.int .i64 0, .int .i64 0] 26) = w9 at *
        generalize w8.heap.size = b2 at *
        clear DX EX
        obtain ⟨r0, r1⟩ := cells2 (G1.out)
        obtain ⟨y0, y1⟩ := cells2 (P.out)
        have hmbw := MP.out.lt
        have HMW := Lib.hid hmbw
        clear hmbw
        go_wp2_with (first | (go_at_call 7; (with_reducible refine (BD.out _).mono ?_); rintro e w10 ⟨rfl, hb1⟩; replace G2 := Lib.hid (block_below G2.out hb1); replace P := Lib.hid (block_below P.out hb1); replace MP := Lib.hid (MP.out.below hb1); replace R := Lib.hid (R.out.below hb1); replace K := Lib.hid (nextB K.out hb1); clear hb1; clear y0 y1; obtain ⟨q0, q1⟩ := cells2 (G2.out); obtain ⟨y0, y1⟩ := cells2 (P.out)) | (go_at_call 10; (with_reducible refine (RB.out _).mono ?_); rintro e w11 ⟨rfl, hb1⟩; replace P := Lib.hid (block_below P.out hb1); replace MP := Lib.hid (MP.out.below hb1); replace R := Lib.hid (R.out.below hb1); replace K := Lib.hid (nextB K.out hb1); clear hb1; clear y0 y1; obtain ⟨y0, y1⟩ := cells2 (P.out); have hlk := map_zero MP.out p hp9 HNO.out) | (at_mapUpdate; refine wpList_put (M := (MRI 32 21 3 Tryz.underlying32 Tryz.underlying21 Tryz.underlying3 (fun w => by kernel_rfl) : MK Tryz.prog Nat Nat)) rfl _ _ _ rfl MP.out (by unfold maxLen; omega) p hp9 1 (by show 1 ≤ 1000000; omega) rfl rfl (by rfl) ?_; intro w12 hm7 hg7; have MP7 := Lib.hid hm7; have HG7 := Lib.hid hg7; clear hm7 hg7))
        have HGN : Hid (∀ q s, (fun q => if q = p then some 1 else gg q) q = some s → q ∈ (L.take (k + 1)).map (·.2)) := Lib.hid (fun q s h => by
          rw [HTK.out]
          simp only at h
          split at h
          · rename_i e
            simp [e]
          · exact List.mem_append_left _ (HGG.out q s h))
        exact ⟨⟨k + 1, by omega, by simp, Lib.hid ⟨_, nn + 1, by omega, HGN.out, MP7.out⟩, Lib.hid (R.out.onlyC HG7.out (by omega)), Lib.hid (onlyB K.out HG7.out HWM.out)⟩, by simp [intOf]; omega⟩
      · have g4 : (3 : Int) < c := by omega
        have HB2 : Hid (bb = [ua, ub]) := Lib.hid (by rw [HBT.out, if_neg h4, bigL_two, HUB.out.1, HUB.out.2])
        go_upto_region 10 with (fail)
        have hb1 := (Below.refl w4.heap.size w4).alloc (Nat.le_refl _) (.cells #[.int .u8 ub.toNat] 5)
        replace P := Lib.hid (block_below P.out hb1); replace MP := Lib.hid (MP.out.below hb1); replace R := Lib.hid (R.out.below hb1); replace K := Lib.hid (nextB K.out hb1); clear hb1
        clear hcv y0 y1
        generalize w4.alloc (.cells #[.int .u8 ub.toNat] 5) = w5 at *
        obtain ⟨y0, y1⟩ := cells2 (P.out)
        have hcv := conv_lit w5 #[.int .u8 ua.toNat, .int .u8 ub.toNat] [ua, ub] (by simp [cellsOf]) 2 rfl (by decide)
        go_upto_region 12 with (fail)
        have hb1 := (Below.refl w5.heap.size w5).alloc (Nat.le_refl _) (.cells #[.int .u8 ua.toNat, .int .u8 ub.toNat] 5)
        replace P := Lib.hid (block_below P.out hb1); replace MP := Lib.hid (MP.out.below hb1); replace R := Lib.hid (R.out.below hb1); replace K := Lib.hid (nextB K.out hb1); clear hb1
        clear hcv y0 y1
        generalize w5.alloc (.cells #[.int .u8 ua.toNat, .int .u8 ub.toNat] 5) = w55 at *
        have e := HB2.out
        subst e
        have BD := Lib.hid (fun w => bad_any 0 0 w)
        rw [show ((0 : Int) != 0) = false by rfl] at BD
        go_upto_region 13 with (go_at_call 8; (with_reducible refine (DX.out _ (hT.out.below K.out) (hD.out.below K.out)).mono ?_); rintro e w6 ⟨rfl, hb1⟩; replace P := Lib.hid (block_below P.out hb1); replace MP := Lib.hid (MP.out.below hb1); replace R := Lib.hid (R.out.below hb1); replace K := Lib.hid (nextB K.out hb1); clear hb1)
        have G1 := Lib.hid (at_a0 w6 #[.int .i64 0, .int .i64 0] 26)
        have hb1 := (Below.refl w6.heap.size w6).alloc (Nat.le_refl _) (.cells #[.int .i64 0, .int .i64 0] 26)
        replace P := Lib.hid (block_below P.out hb1); replace MP := Lib.hid (MP.out.below hb1); replace R := Lib.hid (R.out.below hb1); replace K := Lib.hid (nextB K.out hb1); clear hb1
        generalize w6.alloc (.cells #[.int .i64 0, .int .i64 0] 26) = w7 at *
        generalize w6.heap.size = b1 at *
        go_upto_region 14 with (go_at_call 6; (with_reducible refine (EX.out _ (hT.out.below K.out) (hm.out.below K.out)).mono ?_); rintro e w8 ⟨rfl, hb1⟩; replace G1 := Lib.hid (block_below G1.out hb1); replace P := Lib.hid (block_below P.out hb1); replace MP := Lib.hid (MP.out.below hb1); replace R := Lib.hid (R.out.below hb1); replace K := Lib.hid (nextB K.out hb1); clear hb1)
        have G2 := Lib.hid (at_a0 w8 #[.int .i64 0, .int .i64 0] 26)
        have hb1 := (Below.refl w8.heap.size w8).alloc (Nat.le_refl _) (.cells #[.int .i64 0, .int .i64 0] 26)
        replace G1 := Lib.hid (block_below G1.out hb1)
        replace P := Lib.hid (block_below P.out hb1); replace MP := Lib.hid (MP.out.below hb1); replace R := Lib.hid (R.out.below hb1); replace K := Lib.hid (nextB K.out hb1); clear hb1
        generalize w8.alloc (.cells #[.int .i64 0, .int .i64 0] 26) = w9 at *
        generalize w8.heap.size = b2 at *
        clear DX EX
        obtain ⟨r0, r1⟩ := cells2 (G1.out)
        obtain ⟨y0, y1⟩ := cells2 (P.out)
        have hmbw := MP.out.lt
        have HMW := Lib.hid hmbw
        clear hmbw
        go_wp2_with (first | (go_at_call 7; (with_reducible refine (BD.out _).mono ?_); rintro e w10 ⟨rfl, hb1⟩; replace G2 := Lib.hid (block_below G2.out hb1); replace P := Lib.hid (block_below P.out hb1); replace MP := Lib.hid (MP.out.below hb1); replace R := Lib.hid (R.out.below hb1); replace K := Lib.hid (nextB K.out hb1); clear hb1; clear y0 y1; obtain ⟨q0, q1⟩ := cells2 (G2.out); obtain ⟨y0, y1⟩ := cells2 (P.out)) | (go_at_call 10; (with_reducible refine (RB.out _).mono ?_); rintro e w11 ⟨rfl, hb1⟩; replace P := Lib.hid (block_below P.out hb1); replace MP := Lib.hid (MP.out.below hb1); replace R := Lib.hid (R.out.below hb1); replace K := Lib.hid (nextB K.out hb1); clear hb1; clear y0 y1; obtain ⟨y0, y1⟩ := cells2 (P.out); have hlk := map_zero MP.out p hp9 HNO.out) | (at_mapUpdate; refine wpList_put (M := (MRI 32 21 3 Tryz.underlying32 Tryz.underlying21 Tryz.underlying3 (fun w => by kernel_rfl) : MK Tryz.prog Nat Nat)) rfl _ _ _ rfl MP.out (by unfold maxLen; omega) p hp9 1 (by show 1 ≤ 1000000; omega) rfl rfl (by rfl) ?_; intro w12 hm7 hg7; have MP7 := Lib.hid hm7; have HG7 := Lib.hid hg7; clear hm7 hg7))
        have HGN : Hid (∀ q s, (fun q => if q = p then some 1 else gg q) q = some s → q ∈ (L.take (k + 1)).map (·.2)) := Lib.hid (fun q s h => by
          rw [HTK.out]
          simp only at h
          split at h
          · rename_i e
            simp [e]
          · exact List.mem_append_left _ (HGG.out q s h))
        exact ⟨⟨k + 1, by omega, by simp, Lib.hid ⟨_, nn + 1, by omega, HGN.out, MP7.out⟩, Lib.hid (R.out.onlyC HG7.out (by omega)), Lib.hid (onlyB K.out HG7.out HWM.out)⟩, by simp [intOf]; omega⟩
    · have g0 : ¬ (k : Int) < n := by omega
      go_wp2
      go_ret
      exact ⟨rfl, K.out⟩
end Go.Proofs.YtffhmjlojmoomaaGreatDoor
