/- Layer 18 (packet): Join, walked. -/
import Derived.Test.YtmnmonmbdgedbaaPk9
import Derived.Deep.DeepCutAuto
namespace Go.Proofs.Ytmnmonmbdgedbaa
open Go.RowKit
set_option linter.unusedVariables false
set_option linter.unusedSimpArgs false

theorem pk_apart {u4 u5 : Value} {B : Nat} (h4 : ∀ k, u4.ownBlock = some k → k < B) (h5 : ∀ k, u5.ownBlock = some k → B ≤ k) : u4.ownBlock = none ∨ u4.ownBlock ≠ u5.ownBlock := by
  rcases h : u4.ownBlock with _ | k
  · exact .inl rfl
  · right
    intro e
    have h1 := h4 k h
    have h2 := h5 k e.symm
    omega
theorem pk_lt {w : World} {base e size : Nat} {v : Value} {L : List (List Value)} (h : Recs w base e size v L) {B : Nat} (hB : w.heap.size ≤ B) : ∀ k, v.ownBlock = some k → k < B := fun k e => by have := (h.lt k e).2; omega
set_option maxHeartbeats 4000000 in
set_option maxRecDepth 100000 in
theorem pjoin_any (a : Option Addr) (n cap : Nat) (ps : List Pg) (w : World) (hs : Hid (RecsAt w a n 6 (ps.map pgR))) (hn : n ≤ 500) (hb : Hid (∀ p ∈ ps, p.la.length ≤ 1000 ∧ p.bo.length ≤ 1000000)) :
    Calls Try.prog 36 #[.slice a n cap] w fun e w' => ∃ u, e = .returned (.tuple #[u, .agg #[.int .i64 (joinS ps 0 [] [] false).2.1, .int .i64 (joinS ps 0 [] [] false).2.2]]) ∧ Recs w' w.heap.size 9 1 u ((joinS ps 0 [] [] false).1.map strR) ∧ Below w.heap.size w w' := by
  have HL : Hid (ps.length = n) := Lib.hid (by simpa using hs.out.1)
  have hni : (n : Int) ≤ 500 := by omega
  obtain ⟨res, hres⟩ : ∃ r, r = joinS ps 0 [] [] false := ⟨_, rfl⟩
  have HR := Lib.hid hres.symm
  rw [← hres]
  clear hres
  obtain ⟨rb, hrb⟩ : ∃ rb, rb = w.heap.size := ⟨_, rfl⟩
  have F := Lib.hid (at_a0 w #[.int .i64 0, .int .i64 0] 31)
  have K := Lib.hid ((Below.refl w.heap.size w).alloc (Nat.le_refl _) (.cells #[.int .i64 0, .int .i64 0] 31))
  have HZ : Hid ((w.alloc (.cells #[.int .i64 0, .int .i64 0] 31)).heap.size = rb + 1) := Lib.hid (by rw [hrb]; simp)
  go_enter Try.func36, Try.ntmps36
  go_upto_region 1 with (fail)
  have hs0 := Lib.hid (hs.out.below K.out)
  generalize w.alloc (.cells #[.int .i64 0, .int .i64 0] 31) = w0 at *
  rw [← hrb] at F
  rw [← hrb]
  have HRB := Lib.hid hrb
  clear hrb
  go_wp2
  go_loopw [4, 5, 6, 14] (fun u4 u5 s6 i wr => ∃ (j : Nat) (acc Lp : List (List UInt8)) (B5 : Nat) (op : Bool), j ≤ n ∧ s6 = .bool op ∧ i = .int .i64 j ∧ Lp.flatten.length ≤ 1000000 * j ∧ Lp.length ≤ j ∧ acc.length ≤ 1000 * j ∧ Hid (joinS (ps.drop j) j acc Lp.flatten op = res) ∧ Hid (Recs wr (rb + 1) 9 1 u4 (acc.map strR)) ∧ Hid (Recs wr B5 9 1 u5 (Lp.map strR)) ∧ Hid (∀ k, u4.ownBlock = some k → k < B5) ∧ rb + 1 ≤ B5 ∧ B5 ≤ wr.heap.size ∧ Hid (wr.heap[rb]? = some (.cells #[.int .i64 0, .int .i64 0] 31 (0, 0))) ∧ Hid (Below w.heap.size w wr)) (fun _ _ _ i _ => n - (intOf i).toNat)
  case atStart => exact ⟨0, [], [], rb + 1, false, by omega, rfl, rfl, by simp, by simp, by simp, HR, Lib.hid (Recs.nil _ _ _ _), Lib.hid (Recs.nil _ _ _ _), Lib.hid (by intro k e; cases e), Nat.le_refl _, by rw [HZ.out]; exact Nat.le_refl _, F, K⟩
  case round =>
    clear F K HZ
    obtain ⟨j, acc, Lp0, B5, op, hj, rfl, rfl, hpl, hLp, hal, HA, V4, V5, H45, hB1, hB2, F, K⟩ := hrel
    by_cases hlt : j < n
    · have g0 : (j : Int) < n := by omega
      have hjl : j < ps.length := by rw [HL.out]; exact hlt
      have hA := HA.out
      rw [List.drop_eq_getElem_cons hjl, joinS] at hA
      obtain ⟨b, off, rfl, hbb, c0, c1, c2, c3, c4, c5⟩ := pk_cells (hs.out.below K.out) j hjl
      have hpb := hb.out ps[j] (List.getElem_mem hjl)
      generalize ps[j] = p at *
      have CK := Lib.hid (fun w => check_any p w (by omega))
      unfold pgV pgR at CK
      have BD := Lib.hid (fun w => bad_any (checkC p) 0 w)
      have HS := Lib.hid (fun w => has_any p 1 w)
      unfold hdV at HS
      rw [show ((1 : UInt8).toNat : Int) = 1 from rfl] at HS
      go_upto_region 6 with (fail)
      have P := Lib.hid (at_a0 wr #[.int .u8 p.fl.toNat, .int .u64 p.po, .int .u32 p.se, .int .u32 p.nu, .string ⟨p.la.toArray⟩, .string ⟨p.bo.toArray⟩] 66)
      have hB := (Below.refl wr.heap.size wr).alloc (Nat.le_refl _) (.cells #[.int .u8 p.fl.toNat, .int .u64 p.po, .int .u32 p.se, .int .u32 p.nu, .string ⟨p.la.toArray⟩, .string ⟨p.bo.toArray⟩] 66)
      replace V4 := Lib.hid (V4.out.below hB)
      replace V5 := Lib.hid (V5.out.below hB)
      replace F := Lib.hid (block_below F.out hB)
      replace K := Lib.hid (nextB K.out hB)
      have hsz : (wr.alloc (.cells #[.int .u8 p.fl.toNat, .int .u64 p.po, .int .u32 p.se, .int .u32 p.nu, .string ⟨p.la.toArray⟩, .string ⟨p.bo.toArray⟩] 66)).heap.size = wr.heap.size + 1 := by simp
      clear hB c0 c1 c2 c3 c4 c5
      generalize wr.alloc (.cells #[.int .u8 p.fl.toNat, .int .u64 p.po, .int .u32 p.se, .int .u32 p.nu, .string ⟨p.la.toArray⟩, .string ⟨p.bo.toArray⟩] 66) = w1 at *
      generalize wr.heap.size = pb at *
      obtain ⟨x0, x1, x2, x3, x4, x5⟩ := cells6 (P.out)
      by_cases hck : checkC p = 0
      · have t1 : (checkC p != 0) = false := by rw [hck]; rfl
        by_cases hop : hasB p.fl 1 = op
        · rw [if_neg (by intro h; rcases h with h | h; exact h hck; exact h hop)] at hA
          have HA2 := Lib.hid hA
          rw [hop] at HS
          clear hA HA hop
          have hbl : p.bo.length = lacesL p.la := by
            unfold checkC at hck
            split at hck
            · cases hck
            · split at hck
              · cases hck
              · rename_i h; exact Classical.byContradiction h
          clear hck
          have hoo : (op != op) = false := bne_self_eq_false op
          go_upto_region 8 with (first | (go_at_call 44; (with_reducible refine (CK.out _).mono ?_); rintro e w3 ⟨rfl, hb3⟩; replace P := Lib.hid (block_below P.out hb3); replace V4 := Lib.hid (V4.out.below hb3); replace V5 := Lib.hid (V5.out.below hb3); replace F := Lib.hid (block_below F.out hb3); replace K := Lib.hid (nextB K.out hb3); have hz3 := hb3.size; clear hb3 x0 x1 x2 x3 x4 x5; obtain ⟨y0, y1, y2, y3, y4, y5⟩ := cells6 (P.out)) | (go_at_call 16; (with_reducible refine (BD.out _).mono ?_); rintro e w4 ⟨rfl, hb4⟩; replace P := Lib.hid (block_below P.out hb4); replace V4 := Lib.hid (V4.out.below hb4); replace V5 := Lib.hid (V5.out.below hb4); replace F := Lib.hid (block_below F.out hb4); replace K := Lib.hid (nextB K.out hb4); have hz4 := hb4.size; clear hb4 y0 y1 y2 y3 y4 y5; obtain ⟨z0, z1, z2, z3, z4, z5⟩ := cells6 (P.out)) | (go_at_call 82; (with_reducible refine (HS.out _).mono ?_); rintro e w5 ⟨rfl, hb5⟩; replace P := Lib.hid (block_below P.out hb5); replace V4 := Lib.hid (V4.out.below hb5); replace V5 := Lib.hid (V5.out.below hb5); replace F := Lib.hid (block_below F.out hb5); replace K := Lib.hid (nextB K.out hb5); have hz5 := hb5.size; clear hb5 z0 z1 z2 z3 z4 z5; obtain ⟨v0, v1, v2, v3, v4, v5⟩ := cells6 (P.out)))
          have hA3 := HA2.out
          clear v0 v1 v2 v3 v4 v5 CK BD HS t1
          obtain ⟨bo, hbo⟩ : ∃ x, x = p.bo := ⟨_, rfl⟩
          obtain ⟨la, hla⟩ : ∃ x, x = p.la := ⟨_, rfl⟩
          rw [← hla] at P hbl hA3 hpb
          rw [← hbo] at P hbl hA3 hpb
          clear hbo hla
          have HBL := Lib.hid hbl
          have HA3 := Lib.hid hA3
          obtain ⟨hpb1, hpb2⟩ := hpb
          have hB5 : B5 ≤ w5.heap.size := by omega
          clear hbl hA3 HA2 hoo
          go_upto_region 9 with (fail)
          obtain ⟨y0, y1, y2, y3, y4, y5⟩ := cells6 (P.out)
          go_upto_region 10 with (fail)
          clear y0 y1 y2 y3 y4 y5
          go_loopw [4, 5, 6, 9, 10, 34] (fun u4 u5 s6 s9 s10 s34 wx => ∃ (k : Nat) (s : Lc) (Lp : List (List UInt8)) (B5 : Nat) (o : Bool), k ≤ la.length ∧ s6 = .bool o ∧ s9 = .int .i64 s.fr ∧ s10 = .int .i64 s.tt ∧ s34 = .int .i64 k ∧ s.tt ≤ 1000000 ∧ s.fr ≤ s.tt ∧ Hid (s.part = Lp.flatten) ∧ Lp.flatten.length ≤ 1000000 * j ∧ Lp.length ≤ j ∧ s.acc.length ≤ acc.length + k ∧ Hid (lcs bo (la.take k) acc Lp0.flatten = s) ∧ Hid (opensB (la.take k) op = o) ∧ Hid (wx.heap[pb]? = some (.cells #[.int .u8 p.fl.toNat, .int .u64 p.po, .int .u32 p.se, .int .u32 p.nu, .string ⟨la.toArray⟩, .string ⟨bo.toArray⟩] 66 (0, 0))) ∧ Hid (Recs wx (rb + 1) 9 1 u4 (s.acc.map strR)) ∧ Hid (Recs wx B5 9 1 u5 (Lp.map strR)) ∧ Hid (∀ k, u4.ownBlock = some k → k < B5) ∧ rb + 1 ≤ B5 ∧ B5 ≤ wx.heap.size ∧ Hid (wx.heap[rb]? = some (.cells #[.int .i64 0, .int .i64 0] 31 (0, 0))) ∧ Hid (Below w.heap.size w wx)) (fun _ _ _ _ _ s34 _ => la.length - (intOf s34).toNat)
          case atStart => exact ⟨0, ⟨acc, Lp0.flatten, 0, 0⟩, Lp0, B5, op, Nat.zero_le _, rfl, rfl, rfl, rfl, by show 0 ≤ _; omega, Nat.le_refl _, Lib.hid rfl, hpl, hLp, Nat.le_refl _, Lib.hid rfl, Lib.hid rfl, P, V4, V5, H45, hB1, hB5, F, K⟩
          case round =>
            clear P V4 V5 H45 hB1 hB2 hB5 F K
            obtain ⟨k, s, Lp, B5, o, hk, rfl, rfl, rfl, rfl, htt, hft, HPA, hlp1, hlp2, hac, HS, HO, P, V4, V5, H45, hB1, hB2, F, K⟩ := hrel
            obtain ⟨y0, y1, y2, y3, y4, y5⟩ := cells6 (P.out)
            have hps : s.tt = lacesL (la.take k) := by
              rw [← HS.out]
              exact (lcs_to bo acc Lp0.flatten (la.take k)).1
            by_cases hkl : k < la.length
            · have g1 : (k : Int) < la.length := by omega
              have hlt2 := laces_take la k hkl
              have hle2 : lacesL (la.take (k + 1)) ≤ lacesL la := by
                have h := laces_app (la.take (k + 1)) (la.drop (k + 1))
                rw [List.take_append_drop] at h
                omega
              rw [← HBL.out] at hle2
              have hc := byte_le la[k]
              have HS1 := Lib.hid (show lcs bo (la.take (k + 1)) acc Lp0.flatten = lcStep bo s la[k] by rw [List.take_succ_eq_append_getElem hkl, lcs_snoc, HS.out])
              have HO1 := Lib.hid (show opensB (la.take (k + 1)) op = (la[k] == 255) by rw [List.take_succ_eq_append_getElem hkl, opensB_snoc])
              have hle3 : s.tt + la[k].toNat ≤ bo.length := by omega
              clear hps hlt2 hle2
              go_upto_region 13 with (fail)
              obtain ⟨t2, ht2⟩ : ∃ t2 : Nat, t2 = s.tt + la[k].toNat := ⟨_, rfl⟩
              have ht3 : (s.tt : Int) + (la[k].toNat : Int) = (t2 : Int) := by omega
              have ht4 : t2 ≤ bo.length := by omega
              have hft2 : s.fr ≤ t2 := by omega
              rw [ht3]
              clear ht3 hle3
              by_cases hz : la[k] = 255
              · have HS2 := Lib.hid (show lcStep bo s la[k] = ⟨s.acc, s.part, s.fr, t2⟩ by unfold lcStep; rw [if_pos hz, ht2, hz]; rfl)
                have t3 : ((la[k].toNat : Int) == 255) = true := by rw [hz]; rfl
                have HO2 : Hid ((la[k] == 255) = true) := Lib.hid (by rw [hz]; rfl)
                clear hz ht2
                go_wp2
                refine ⟨⟨k + 1, ⟨s.acc, s.part, s.fr, t2⟩, Lp, B5, true, by omega, rfl, rfl, rfl, by simp, by show t2 ≤ _; omega, hft2, HPA, hlp1, hlp2, by show s.acc.length ≤ _; omega, Lib.hid (by rw [HS1.out, HS2.out]), Lib.hid (by rw [HO1.out, HO2.out]), P, V4, V5, H45, hB1, hB2, F, K⟩, by simp [intOf]; omega⟩
              · have HS2 := Lib.hid (show lcStep bo s la[k] = ⟨s.acc ++ [s.part ++ (bo.drop s.fr).take (t2 - s.fr)], [], t2, t2⟩ by unfold lcStep; rw [if_neg hz, ht2])
                have t3 : ((la[k].toNat : Int) == 255) = false := by
                  simp only [beq_eq_false_iff_ne, ne_eq]
                  intro e
                  exact hz (by rw [u8_eq]; show la[k].toNat = 255; omega)
                have HO2 : Hid ((la[k] == 255) = false) := Lib.hid (by simpa using hz)
                clear hz ht2
                go_upto_region 15 with (fail)
                have x1 : ((s.fr : Nat) : Int) ≤ t2 := by omega
                have x2 : ((t2 : Nat) : Int) ≤ bo.length := by omega
                have hxl : ((bo.drop s.fr).take (t2 - s.fr)).length ≤ 1000000 := by rw [List.length_take, List.length_drop]; omega
                have hpn4 := recs_off V4.out P.out (by decide)
                have hpn5 := recs_off V5.out P.out (by decide)
                have hfn4 := recs_off V4.out F.out (by decide)
                have hfn5 := recs_off V5.out F.out (by decide)
                have HJ : Hid (∀ (u : Value) (wy : World) (x : List UInt8), x.length ≤ 1000000 → Recs wy B5 9 1 u (Lp.map strR ++ [strR x]) → ∃ a n cap, u = .slice a n cap ∧ Calls Try.prog 50 #[.slice a n cap] wy fun e w' => e = .returned (.string ⟨(s.part ++ x).toArray⟩) ∧ Below wy.heap.size wy w') := Lib.hid (by
                  intro u wy x hx hr
                  obtain ⟨a, n1, cap, rfl, hn1, hcap, hst⟩ := strs_of (L := Lp ++ [x]) (by rw [List.map_append]; exact hr)
                  refine ⟨a, n1, cap, rfl, ?_⟩
                  have e1 : (Lp ++ [x]).flatten = s.part ++ x := by rw [List.flatten_append, HPA.out]; simp
                  have hJ := octJoin_any a n1 cap (Lp ++ [x]) wy hst hcap (by rw [hn1, List.length_append]; simp; omega) (by rw [e1, List.length_append, HPA.out]; omega)
                  rw [e1] at hJ
                  exact hJ)
                obtain ⟨x, hx⟩ : ∃ x, x = (bo.drop s.fr).take (t2 - s.fr) := ⟨_, rfl⟩
                rw [← hx] at HS2 hxl
                have HX := Lib.hid hx
                clear hx
                go_wp2_with (first | (at_builtin; rw [← HX.out]; refine wpList_pushR wr rfl (.tmp 51) (.tmp 57) 67 rfl B5 9 1 16 _ Try.underlying67 info_strs rfl (by decide) (by decide) _ (Lp.map strR) (strR x) _ (by rfl) rfl (one_strR _) (by rfl) V5.out (by rfl) (by rw [List.length_map]; omega) (by omega) _ ?_; intro v6 w6 hr6 hg6; obtain ⟨a6, n6, c6, rfl, hJ6⟩ := HJ.out _ _ x hxl hr6; have J6 := Lib.hid hJ6; have l5 := V5.out.lt; have hz6 := hg6.size; have K6 := Lib.hid (pk_grown K.out hg6 (fun k e => by have := (l5 k e).1; have := HRB.out; omega) (by have := HRB.out; omega)); have P6 := Lib.hid ((hg6.block pb (Array.getElem?_eq_some_iff.1 P.out).1 (fun e => hpn5 e.symm)).trans P.out); have F6 := Lib.hid ((hg6.block rb (Array.getElem?_eq_some_iff.1 F.out).1 (fun e => hfn5 e.symm)).trans F.out); have V6 := Lib.hid (V4.out.kept hg6 (pk_apart H45.out (fun k e => (l5 k e).1))); clear hr6 hg6 l5 hJ6) | (go_at_call 50; (with_reducible refine J6.out.mono ?_); rintro e w7 ⟨rfl, hb7⟩; have hz7 := hb7.size; have K7 := Lib.hid (nextB K6.out hb7); have P7 := Lib.hid (block_below P6.out hb7); have F7 := Lib.hid (block_below F6.out hb7); have V7 := Lib.hid (V6.out.below hb7); clear hb7) | (at_builtin; refine wpList_pushR w7 rfl (.tmp 50) (.tmp 60) 67 rfl (rb + 1) 9 1 16 _ Try.underlying67 info_strs rfl (by decide) (by decide) _ (s.acc.map strR) (strR (s.part ++ x)) _ (by rfl) rfl (one_strR _) (by rfl) V7.out (by rfl) (by rw [List.length_map]; omega) (by omega) _ ?_; intro v8 w8 hr8 hg8; have l4 := V7.out.lt; have hz8 := hg8.size; have K8 := Lib.hid (pk_grown K7.out hg8 (fun k e => by have := (l4 k e).1; have := HRB.out; omega) (by have := HRB.out; omega)); have P8 := Lib.hid ((hg8.block pb (Array.getElem?_eq_some_iff.1 P7.out).1 (fun e => hpn4 e.symm)).trans P7.out); have F8 := Lib.hid ((hg8.block rb (Array.getElem?_eq_some_iff.1 F7.out).1 (fun e => hfn4 e.symm)).trans F7.out); have V8 := Lib.hid hr8; clear hr8 hg8 l4))
                refine ⟨⟨k + 1, ⟨s.acc ++ [s.part ++ x], [], t2, t2⟩, [], w8.heap.size, false, by omega, rfl, rfl, rfl, by simp, by show t2 ≤ _; omega, Nat.le_refl _, Lib.hid rfl, by simp, by simp, by show (s.acc ++ _).length ≤ _; rw [List.length_append]; show _ + 1 ≤ _; omega, Lib.hid (by rw [HS1.out, HS2.out]), Lib.hid (by rw [HO1.out, HO2.out]), P8, Lib.hid (by show Recs _ _ _ _ _ (List.map strR (s.acc ++ [_])); rw [List.map_append]; exact V8.out), Lib.hid (Recs.nil _ _ _ _), Lib.hid (pk_lt V8.out (Nat.le_refl _)), by omega, Nat.le_refl _, F8, K8⟩, by simp [intOf]; omega⟩
            · have g1 : ¬ (k : Int) < la.length := by omega
              have hkk : k = la.length := by omega
              have hA4 := HA3.out
              have hHS := HS.out
              have hHO := HO.out
              rw [hkk, List.take_length] at hHS hHO
              rw [hHS, hHO] at hA4
              have hbo : s.tt ≤ bo.length := by rw [HBL.out, hps, hkk, List.take_length]; exact Nat.le_refl _
              clear hHS hHO hps HS HO HA3
              by_cases hft2 : s.fr < s.tt
              · have g2 : (s.fr : Int) < s.tt := by omega
                unfold partL at hA4
                rw [if_pos hft2, HPA.out] at hA4
                have hxl : ((bo.drop s.fr).take (s.tt - s.fr)).length ≤ 1000000 := by rw [List.length_take, List.length_drop]; omega
                have x1 : ((s.fr : Nat) : Int) ≤ s.tt := by omega
                have x2 : ((s.tt : Nat) : Int) ≤ bo.length := by omega
                have HA5 : Hid (joinS (ps.drop (j + 1)) (j + 1) s.acc (Lp ++ [(bo.drop s.fr).take (s.tt - s.fr)]).flatten o = res) := Lib.hid (by rw [List.flatten_append]; simpa using hA4)
                clear hA4
                have hfn5 := recs_off V5.out F.out (by decide)
                obtain ⟨x, hx⟩ : ∃ x, x = (bo.drop s.fr).take (s.tt - s.fr) := ⟨_, rfl⟩
                rw [← hx] at HA5 hxl
                have HX := Lib.hid hx
                clear hx
                go_wp2_with (at_builtin; rw [← HX.out]; refine wpList_pushR wr rfl (.tmp 67) (.tmp 73) 67 rfl B5 9 1 16 _ Try.underlying67 info_strs rfl (by decide) (by decide) _ (Lp.map strR) (strR x) _ (by rfl) rfl (one_strR _) (by rfl) V5.out (by rfl) (by rw [List.length_map]; omega) (by omega) _ ?_; intro v6 w6 hr6 hg6; have l5 := V5.out.lt; have hz6 := hg6.size; have K6 := Lib.hid (pk_grown K.out hg6 (fun k e => by have := (l5 k e).1; have := HRB.out; omega) (by have := HRB.out; omega)); have F6 := Lib.hid ((hg6.block rb (Array.getElem?_eq_some_iff.1 F.out).1 (fun e => hfn5 e.symm)).trans F.out); have V6 := Lib.hid (V4.out.kept hg6 (pk_apart H45.out (fun k e => (l5 k e).1))); have V7 := Lib.hid hr6; clear hr6 hg6 l5)
                exact ⟨⟨j + 1, s.acc, Lp ++ [x], B5, o, by omega, rfl, by simp, by rw [List.flatten_append, List.length_append, show [x].flatten = x by simp]; omega, by rw [List.length_append]; simp; omega, by omega, HA5, V6, Lib.hid (by rw [List.map_append]; exact V7.out), H45, hB1, by omega, F6, K6⟩, by simp [intOf]; omega⟩
              · have g2 : ¬ (s.fr : Int) < s.tt := by omega
                unfold partL at hA4
                rw [if_neg hft2, HPA.out] at hA4
                have HA5 := Lib.hid hA4
                clear hA4
                go_wp2
                exact ⟨⟨j + 1, s.acc, Lp, B5, o, by omega, rfl, by simp, by omega, by omega, by omega, HA5, V4, V5, H45, hB1, hB2, F, K⟩, by simp [intOf]; omega⟩
        · rw [if_pos (.inr hop)] at hA
          have HB := Lib.hid hA
          clear hA HA hck
          generalize hasB p.fl 1 = hq at *
          obtain ⟨rfl, rfl⟩ | ⟨rfl, rfl⟩ : (hq = false ∧ op = true) ∨ (hq = true ∧ op = false) := by cases hq <;> cases op <;> simp_all
          all_goals clear hop
          · skip
            go_wp2_with (first | (go_at_call 44; (with_reducible refine (CK.out _).mono ?_); rintro e w3 ⟨rfl, hb3⟩; replace P := Lib.hid (block_below P.out hb3); replace F := Lib.hid (block_below F.out hb3); replace K := Lib.hid (nextB K.out hb3); clear hb3 x0 x1 x2 x3 x4 x5; obtain ⟨y0, y1, y2, y3, y4, y5⟩ := cells6 (P.out)) | (go_at_call 16; (with_reducible refine (BD.out _).mono ?_); rintro e w4 ⟨rfl, hb4⟩; replace P := Lib.hid (block_below P.out hb4); replace F := Lib.hid (block_below F.out hb4); replace K := Lib.hid (nextB K.out hb4); clear hb4 y0 y1 y2 y3 y4 y5; obtain ⟨z0, z1, z2, z3, z4, z5⟩ := cells6 (P.out)) | (go_at_call 82; (with_reducible refine (HS.out _).mono ?_); rintro e w5 ⟨rfl, hb5⟩; replace F := Lib.hid (block_below F.out hb5); replace K := Lib.hid (nextB K.out hb5); clear hb5 z0 z1 z2 z3 z4 z5; obtain ⟨f0, f1⟩ := cells2 (F.out); obtain ⟨ff0, ff1⟩ := frees2 (F.out)))
            refine end_tmp_cell (by rfl) rfl (by rfl) (store2 F.out rfl) Try.underlying31 rfl (by kernel_rfl) ?_
            have hwr : w.heap.size ≤ rb := by rw [HRB.out]; exact Nat.le_refl _
            exact ⟨_, by rw [← HB.out], by rw [← HB.out]; exact Recs.nil _ _ _ _, (K.out.setCell hwr _).setCell hwr _⟩
          · skip
            go_wp2_with (first | (go_at_call 44; (with_reducible refine (CK.out _).mono ?_); rintro e w3 ⟨rfl, hb3⟩; replace P := Lib.hid (block_below P.out hb3); replace F := Lib.hid (block_below F.out hb3); replace K := Lib.hid (nextB K.out hb3); clear hb3 x0 x1 x2 x3 x4 x5; obtain ⟨y0, y1, y2, y3, y4, y5⟩ := cells6 (P.out)) | (go_at_call 16; (with_reducible refine (BD.out _).mono ?_); rintro e w4 ⟨rfl, hb4⟩; replace P := Lib.hid (block_below P.out hb4); replace F := Lib.hid (block_below F.out hb4); replace K := Lib.hid (nextB K.out hb4); clear hb4 y0 y1 y2 y3 y4 y5; obtain ⟨z0, z1, z2, z3, z4, z5⟩ := cells6 (P.out)) | (go_at_call 82; (with_reducible refine (HS.out _).mono ?_); rintro e w5 ⟨rfl, hb5⟩; replace F := Lib.hid (block_below F.out hb5); replace K := Lib.hid (nextB K.out hb5); clear hb5 z0 z1 z2 z3 z4 z5; obtain ⟨f0, f1⟩ := cells2 (F.out); obtain ⟨ff0, ff1⟩ := frees2 (F.out)))
            refine end_tmp_cell (by rfl) rfl (by rfl) (store2 F.out rfl) Try.underlying31 rfl (by kernel_rfl) ?_
            have hwr : w.heap.size ≤ rb := by rw [HRB.out]; exact Nat.le_refl _
            exact ⟨_, by rw [← HB.out], by rw [← HB.out]; exact Recs.nil _ _ _ _, (K.out.setCell hwr _).setCell hwr _⟩
      · have t1 : (checkC p != 0) = true := by simpa using hck
        rw [if_pos (.inl hck)] at hA
        have HB := Lib.hid hA
        clear hA HA hck HS
        go_wp2_with (first | (go_at_call 44; (with_reducible refine (CK.out _).mono ?_); rintro e w3 ⟨rfl, hb3⟩; replace P := Lib.hid (block_below P.out hb3); replace F := Lib.hid (block_below F.out hb3); replace K := Lib.hid (nextB K.out hb3); clear hb3 x0 x1 x2 x3 x4 x5; obtain ⟨y0, y1, y2, y3, y4, y5⟩ := cells6 (P.out)) | (go_at_call 16; (with_reducible refine (BD.out _).mono ?_); rintro e w4 ⟨rfl, hb4⟩; replace F := Lib.hid (block_below F.out hb4); replace K := Lib.hid (nextB K.out hb4); clear hb4 y0 y1 y2 y3 y4 y5; obtain ⟨f0, f1⟩ := cells2 (F.out); obtain ⟨ff0, ff1⟩ := frees2 (F.out)))
        refine end_tmp_cell (by rfl) rfl (by rfl) (store2 F.out rfl) Try.underlying31 rfl (by kernel_rfl) ?_
        have hwr : w.heap.size ≤ rb := by rw [HRB.out]; exact Nat.le_refl _
        exact ⟨_, by rw [← HB.out], by rw [← HB.out]; exact Recs.nil _ _ _ _, (K.out.setCell hwr _).setCell hwr _⟩
    · have g0 : ¬ (j : Int) < n := by omega
      have hjn : j = n := by omega
      subst hjn
      have hA := HA.out
      rw [List.drop_eq_nil_of_le (by rw [HL.out]; exact Nat.le_refl _), joinS] at hA
      have HB := Lib.hid hA
      clear hA HA
      have hwr : w.heap.size ≤ rb := by rw [HRB.out]; exact Nat.le_refl _
      have HW := Lib.hid hwr
      clear hwr
      obtain ⟨f0, f1⟩ := cells2 (F.out); obtain ⟨ff0, ff1⟩ := frees2 (F.out)
      rcases op with _ | _
      · go_wp2
        refine end_tmp_cell (by rfl) rfl (by rfl) (store2 F.out rfl) Try.underlying31 rfl (by kernel_rfl) ?_
        exact ⟨_, by rw [← HB.out]; rfl, by rw [← HB.out]; exact (((V4.out.base (by have := HW.out; omega)).kept (row := some rb) ((Only.set (b := rb) _).trans (Only.set _)) (.inr (recs_off V4.out F.out (by decide))))), (K.out.setCell HW.out _).setCell HW.out _⟩
      · go_wp2
        refine end_tmp_cell (by rfl) rfl (by rfl) (store2 F.out rfl) Try.underlying31 rfl (by kernel_rfl) ?_
        exact ⟨_, by rw [← HB.out]; rfl, by rw [← HB.out]; exact Recs.nil _ _ _ _, (K.out.setCell HW.out _).setCell HW.out _⟩
end Go.Proofs.Ytmnmonmbdgedbaa
