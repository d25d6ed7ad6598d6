/- Layer 18 (packet): Pages, walked. -/
import Derived.Test.YtmnmonmbdgedbaaPk4
import Derived.Deep.DeepCutAuto
namespace Go.Proofs.Ytmnmonmbdgedbaa
open Go.RowKit
set_option linter.unusedVariables false
set_option linter.unusedSimpArgs false

theorem pk_mem_len : ∀ {ps : List (List UInt8)} {p : List UInt8}, p ∈ ps → p.length ≤ ps.flatten.length
  | q :: ps, p, h => by
    rw [List.flatten_cons, List.length_append]
    rcases List.mem_cons.1 h with rfl | h
    · omega
    · have := pk_mem_len h; omega
theorem pk_laces_len : ∀ ps : List (List UInt8), (ps.map (fun p => laceL p.length)).flatten.length ≤ ps.flatten.length + ps.length
  | [] => by simp
  | p :: ps => by
    have h := pk_laces_len ps
    have h2 := laceL_length p.length
    rw [List.map_cons, List.flatten_cons, List.flatten_cons, List.length_append, List.length_append, List.length_cons, h2]
    omega
theorem pk_andnot_n : ∀ n : Nat, n < 256 → bits .andNot .u8 (n : Int) 1 = ((n &&& 254 : Nat) : Int) := by decide +kernel
theorem pk_andnot (c : UInt8) : bits .andNot .u8 (c.toNat : Int) 1 = ((c &&& 254).toNat : Int) := by
  rw [UInt8.toNat_and]
  exact pk_andnot_n c.toNat (UInt8.toNat_lt c)
theorem pk_take_min (l : List UInt8) : l.take (min l.length 255) = l.take 255 := by
  rcases Nat.le_total l.length 255 with h | h
  · rw [Nat.min_eq_left h, List.take_of_length_le h, List.take_of_length_le (Nat.le_refl _)]
  · rw [Nat.min_eq_right h]
theorem pk_drop_min (l : List UInt8) : l.drop (min l.length 255) = l.drop 255 := by
  rcases Nat.le_total l.length 255 with h | h
  · rw [Nat.min_eq_left h, List.drop_eq_nil_of_le h, List.drop_eq_nil_of_le (Nat.le_refl _)]
  · rw [Nat.min_eq_right h]
set_option maxHeartbeats 4000000 in
set_option maxRecDepth 100000 in
theorem ppages_any (h : Pg) (hok : h.Ok) (a : Option Addr) (n cap : Nat) (ps : List (List UInt8)) (w : World) (hs : Hid (StrsAt w a n ps)) (hcap : n ≤ cap) (hn : n ≤ 1000) (hl : ps.flatten.length ≤ 1000000) :
    Calls Try.prog 41 #[.agg #[.int .u8 h.fl.toNat, .int .u64 h.po, .int .u32 h.se, .int .u32 h.nu], .slice a n cap] w fun e w' => ∃ u, e = .returned u ∧ Recs w' w.heap.size 66 6 u ((pagesP h ps).map pgR) ∧ Below w.heap.size w w' := by
  obtain ⟨i0, hi, hz0, hz1, hz2⟩ := info_parts info_strs
  have HL : Hid (ps.length = n) := Lib.hid hs.out.1
  have hni : (n : Int) ≤ 1000 := by omega
  have hle : Hid (∀ p ∈ ps, p.length ≤ 1000000) := Lib.hid (fun p hp => Nat.le_trans (pk_mem_len hp) hl)
  have LC : Hid (∀ (k : Nat), k ≤ 1000000 → ∀ w, Calls Try.prog 33 #[.int .i64 (k : Nat)] w fun e w' => e = .returned (.string ⟨(laceL k).toArray⟩) ∧ Below w.heap.size w w') := Lib.hid (fun k hk w => by have h := lace_any (k : Nat) w (by omega) (by omega); rw [Int.toNat_natCast] at h; exact h)
  obtain ⟨rb, hrb⟩ : ∃ rb, rb = w.heap.size := ⟨_, rfl⟩
  have X := Lib.hid (at_a0 w #[.int .u8 h.fl.toNat, .int .u64 h.po, .int .u32 h.se, .int .u32 h.nu] 64)
  have K := Lib.hid ((Below.refl w.heap.size w).alloc (Nat.le_refl _) (.cells #[.int .u8 h.fl.toNat, .int .u64 h.po, .int .u32 h.se, .int .u32 h.nu] 64))
  have S := Lib.hid (hs.out.below K.out)
  have HZ : Hid ((w.alloc (.cells #[.int .u8 h.fl.toNat, .int .u64 h.po, .int .u32 h.se, .int .u32 h.nu] 64)).heap.size = rb + 1) := Lib.hid (by rw [hrb]; simp)
  go_enter Try.func41, Try.ntmps41
  go_upto_region 1 with (fail)
  generalize w.alloc (.cells #[.int .u8 h.fl.toNat, .int .u64 h.po, .int .u32 h.se, .int .u32 h.nu] 64) = w0 at *
  rw [← hrb] at X
  rw [← hrb]
  have HRB := Lib.hid hrb
  clear hrb
  go_upto_region 2 with (at_make; go_loud (refine wpList_make_own _ rfl _ _ 67 rfl (rb + 1) 9 i0 (.string ⟨#[]⟩) 1 Try.underlying67 hi hz0 hz1 _ _ _ n rfl rfl rfl (by rw [hz2]; omega) (by unfold maxLen; omega) (by rw [HZ.out]; exact Nat.le_refl _) ?_); intro w1 hown hgrow; have V : Hid (Recs w1 (rb + 1) 9 1 (.slice (some ⟨w0.heap.size, 0, none⟩) 0 n) []) := Lib.hid ⟨by simp, hown⟩; have KG := Lib.hid ((Below.refl w0.heap.size w0).grown hgrow (Nat.le_refl _) (by intro k hk; cases hk)); clear hown hgrow)
  replace X := Lib.hid (block_below X.out KG.out)
  replace S := Lib.hid (S.out.below KG.out)
  replace K := Lib.hid (nextB K.out KG.out)
  clear KG
  go_wp2
  go_loopw [20, 5] (fun i u wr => ∃ (j : Nat), j ≤ n ∧ i = .int .i64 j ∧ Hid (Recs wr (rb + 1) 9 1 u ((ps.take j).map (fun p => strR (laceL p.length)))) ∧ Hid (wr.heap[rb]? = some (.cells #[.int .u8 h.fl.toNat, .int .u64 h.po, .int .u32 h.se, .int .u32 h.nu] 64 (0, 0))) ∧ Hid (Below w.heap.size w wr)) (fun i _ _ => n - (intOf i).toNat)
  case atStart => exact ⟨0, by omega, rfl, V, X, K⟩
  case round =>
    clear V X S K
    obtain ⟨j, hj, rfl, V, X, K⟩ := hrel
    have S := Lib.hid (hs.out.below K.out)
    have hxl := (Array.getElem?_eq_some_iff.1 X.out).1
    by_cases hlt : j < n
    · have g0 : (j : Int) < n := by omega
      have hjl : j < ps.length := by rw [HL.out]; exact hlt
      obtain ⟨b, off, rfl, hbb, hc⟩ : ∃ b off, a = some ⟨b, off, none⟩ ∧ b < wr.heap.size ∧ wr.cell? ⟨b, off + j, none⟩ = some (.string ⟨ps[j].toArray⟩) := by
        rcases S.out.2 with h0 | ⟨b, off, ha, hb, hc⟩
        · omega
        · exact ⟨b, off, ha, hb, hc j hjl⟩
      have HV := Lib.hid (show (ps.take (j + 1)).map (fun p => strR (laceL p.length)) = (ps.take j).map (fun p => strR (laceL p.length)) ++ [strR (laceL ps[j].length)] by rw [List.take_succ_eq_append_getElem hjl, List.map_append]; rfl)
      have hpl := hle.out ps[j] (List.getElem_mem hjl)
      have HL1 : Hid (((ps.take j).map (fun p => strR (laceL p.length))).length = j) := Lib.hid (by simp; omega)
      have LP := Lib.hid (LC.out ps[j].length hpl)
      generalize ps[j] = p at *
      go_wp2_with (first | (go_at_call 33; (with_reducible refine (LP.out _).mono ?_); rintro e w3 ⟨rfl, hb3⟩; replace V := Lib.hid (V.out.below hb3); replace X := Lib.hid (block_below X.out hb3); replace K := Lib.hid (nextB K.out hb3); clear hb3; have hx3 := (Array.getElem?_eq_some_iff.1 X.out).1) | (at_builtin; refine wpList_pushR w3 rfl (.tmp 24) (.tmp 28) 67 rfl (rb + 1) 9 1 16 _ Try.underlying67 info_strs rfl (by decide) (by decide) _ ((ps.take j).map (fun p => strR (laceL p.length))) (strR (laceL p.length)) _ (by rfl) rfl (one_strR _) (by rfl) V.out (by rfl) (by rw [HL1.out]; omega) (by omega) _ ?_; intro v5 w5 hr5 hg5; have hl5 := V.out.lt; have V5 := Lib.hid hr5; have KG := Lib.hid (pk_grown (Below.refl (rb + 1) w3) hg5 (fun k e => (hl5 k e).1) (by omega)); clear hl5 hr5 hg5))
      have X5 := Lib.hid ((KG.out.block rb (by omega)).trans X.out)
      have K5 := Lib.hid (K.out.trans (KG.out.mono (by have := HRB.out; omega)))
      exact ⟨⟨j + 1, by omega, by simp, Lib.hid (by rw [HV.out]; exact V5.out), X5, K5⟩, by simp [intOf]; omega⟩
    · have g0 : ¬ (j : Int) < n := by omega
      have hf : ps.take j = ps := List.take_of_length_le (by rw [HL.out]; omega)
      rw [hf] at V
      have V1 : Hid (Recs wr (rb + 1) 9 1 u5 ((ps.map (fun p => laceL p.length)).map strR)) := Lib.hid (by have h := V.out; rw [List.map_map]; exact h)
      obtain ⟨a1, n1, cap1, rfl, hn1, hcap1, hst⟩ := strs_of V1.out
      obtain rfl : n = n1 := by rw [hn1, List.length_map]; exact HL.out.symm
      clear hn1
      have S1 := Lib.hid hst
      have hla := laces_all ps
      have hll := pk_laces_len ps
      have hln := HL.out
      have hfl : (ps.map (fun p => laceL p.length)).flatten.length ≤ 1001000 := by omega
      have J1 := Lib.hid (fun w' hw => octJoin_any a1 n cap1 (ps.map (fun p => laceL p.length)) w' hw hcap1 (by omega) (by omega))
      have J2 := Lib.hid (fun w' hw => octJoin_any a n cap ps w' hw hcap (by omega) (by omega))
      clear hf V V1 hst
      go_upto_region 11 with (first | (go_at_call 50; (with_reducible refine (J1.out _ S1.out).mono ?_); rintro e w3 ⟨rfl, hb3⟩; replace X := Lib.hid (block_below X.out hb3); replace S := Lib.hid (S.out.below hb3); replace K := Lib.hid (nextB K.out hb3); clear hb3) | (go_at_call 50; (with_reducible refine (J2.out _ S.out).mono ?_); rintro e w4 ⟨rfl, hb4⟩; replace X := Lib.hid (block_below X.out hb4); replace K := Lib.hid (nextB K.out hb4); clear hb4))
      obtain ⟨LA, hLA⟩ : ∃ LA, LA = (ps.map (fun p => laceL p.length)).flatten := ⟨_, rfl⟩
      obtain ⟨BO, hBO⟩ : ∃ BO, BO = ps.flatten := ⟨_, rfl⟩
      rw [← hLA] at hla hfl
      rw [← hBO] at hla
      rw [← hLA, ← hBO]
      have HPP : Hid (pagesP h ps = pgsS h (LA.length + 1) LA BO 0 false) := Lib.hid (by rw [hLA, hBO]; rfl)
      have hbl : BO.length ≤ 1000000 := by rw [hBO]; exact hl
      clear hLA hBO hll hln J1 J2 S S1
      go_loopg [8, 9, 10, 11] (LA.length + 1) (fun gk s8 s9 s10 s11 wr => ∃ (laces body : List UInt8) (out : List Pg) (op : Bool), s8 = .string ⟨laces.toArray⟩ ∧ s9 = .string ⟨body.toArray⟩ ∧ s11 = .bool op ∧ laces.length < gk ∧ out.length + laces.length ≤ 1001000 ∧ body.length ≤ 1000000 ∧ Hid (lacesL laces = body.length) ∧ Hid (out ++ pgsS h gk laces body out.length op = pagesP h ps) ∧ Hid (wr.heap[rb]? = some (.cells #[.int .u8 h.fl.toNat, .int .u64 h.po, .int .u32 h.se, .int .u32 h.nu] 64 (0, 0))) ∧ Hid (Recs wr (rb + 1) 66 6 s10 (out.map pgR)) ∧ Hid (Below w.heap.size w wr))
      case atStart => exact ⟨LA, BO, [], false, rfl, rfl, rfl, by omega, by simp; omega, hbl, Lib.hid hla, Lib.hid (by rw [HPP.out]; rfl), X, Lib.hid (Recs.nil _ _ _ _), K⟩
      case round =>
        clear X K hla hbl hfl HPP
        obtain ⟨laces, body, out, op, rfl, rfl, rfl, hgk, hol, hbl, HLB, HO, X, V, K⟩ := hrel
        obtain ⟨g, rfl⟩ : ∃ g, gk = g + 1 := ⟨gk - 1, by omega⟩
        by_cases hne : laces = []
        · subst hne
          have hO : out = pagesP h ps := by have h := HO.out; rw [pgsS_off, List.append_nil] at h; exact h
          have HO2 := Lib.hid hO
          clear hO HO
          go_wp2
          go_ret
          exact ⟨_, rfl, by rw [← HO2.out]; exact V.out.base (by have := HRB.out; omega), K.out⟩
        · have hO := HO.out
          rw [pgsS_on hne] at hO
          have hpos : 0 < laces.length := List.length_pos_iff.2 hne
          obtain ⟨m, hm⟩ : ∃ m, m = min laces.length 255 := ⟨_, rfl⟩
          have htk : laces.take 255 = laces.take m := by rw [hm]; exact (pk_take_min laces).symm
          have hdr : laces.drop 255 = laces.drop m := by rw [hm]; exact (pk_drop_min laces).symm
          rw [htk, hdr] at hO
          have HO2 := Lib.hid hO
          have hmin : min (laces.length : Int) 255 = (m : Int) := by omega
          have hm1 : (m : Int) ≤ laces.length := by omega
          have hm2 : 0 < m := by omega
          have hpz : (0 : Int) < laces.length := by omega
          clear hO HO hm htk hdr hne hpos
          have hxl := (Array.getElem?_eq_some_iff.1 X.out).1
          obtain ⟨x0, x1, x2, x3⟩ := cells4 (X.out)
          go_upto_region 13 with (fail)
          obtain ⟨a3, cap3, hv3, _, _⟩ := V.out.at
          rw [List.length_map] at hv3
          subst hv3
          obtain ⟨la, hla⟩ : ∃ la, la = laces.take m := ⟨_, rfl⟩
          have hsz : lacesL la ≤ body.length := by
            have h := laces_app (laces.take m) (laces.drop m)
            rw [List.take_append_drop, HLB.out, ← hla] at h
            omega
          have hlal : la.length ≤ 255 := by rw [hla, List.length_take]; omega
          have HLD : Hid (lacesL (laces.drop m) = body.length - lacesL la) := Lib.hid (by
            have h := laces_app (laces.take m) (laces.drop m)
            rw [List.take_append_drop, HLB.out, ← hla] at h
            omega)
          rw [← hla] at HO2
          have HLA := Lib.hid hla
          go_region
          rw [← hla]
          clear hla
          have P := Lib.hid (show (wr.alloc (.cells #[.int .u8 h.fl.toNat, .int .u64 h.po, .int .u32 h.se, .int .u32 h.nu, .string ⟨la.toArray⟩, .string ⟨#[]⟩] 66)).drew.heap[wr.heap.size]? = some (.cells #[.int .u8 h.fl.toNat, .int .u64 h.po, .int .u32 h.se, .int .u32 h.nu, .string ⟨la.toArray⟩, .string ⟨#[]⟩] 66 (0, 0)) from at_a0 wr _ _)
          have hB : Below wr.heap.size wr (wr.alloc (.cells #[.int .u8 h.fl.toNat, .int .u64 h.po, .int .u32 h.se, .int .u32 h.nu, .string ⟨la.toArray⟩, .string ⟨#[]⟩] 66)).drew := ((Below.refl wr.heap.size wr).alloc (Nat.le_refl _) _).drew
          have hvp : ∀ k, (Value.slice a3 out.length cap3).ownBlock = some k → k < wr.heap.size := fun k e => (V.out.lt k e).2
          replace X := Lib.hid (block_below X.out hB)
          replace V := Lib.hid (V.out.below hB)
          replace K := Lib.hid (nextB K.out hB)
          clear hB x0 x1 x2 x3
          generalize (wr.alloc (.cells #[.int .u8 h.fl.toNat, .int .u64 h.po, .int .u32 h.se, .int .u32 h.nu, .string ⟨la.toArray⟩, .string ⟨#[]⟩] 66)).drew = w2 at *
          generalize wr.heap.size = pb at *
          have CT := Lib.hid (fun w => count_any la w (by omega))
          have hrp : rb ≠ pb := by omega
          have hpr : pb ≠ rb := by omega
          obtain ⟨x0, x1, x2, x3⟩ := cells4 (X.out)
          obtain ⟨y0, y1, y2, y3, y4, y5⟩ := cells6 (P.out); obtain ⟨yf0, yf1, yf2, yf3, yf4, yf5⟩ := frees6 (P.out)
          have hszi : (lacesL la : Int) ≤ body.length := by omega
          go_upto_region 16 with (go_at_call 84; (with_reducible refine (CT.out _).mono ?_); rintro e wx ⟨rfl, rfl⟩)
          go_region
          have eL : List.take (laces.length - m) (List.drop m laces) = laces.drop m := List.take_of_length_le (by rw [List.length_drop]; exact Nat.le_refl _)
          have eB : List.take (body.length - lacesL la) (List.drop (lacesL la) body) = body.drop (lacesL la) := List.take_of_length_le (by rw [List.length_drop]; exact Nat.le_refl _)
          rw [eL, eB]
          clear eL eB y0 y1 y2 y3 y4 y5 yf0 yf1 yf2 yf3 yf4 yf5 x0 x1 x2 x3
          have hl2 : (laces.drop m).length = laces.length - m := List.length_drop
          have hb2 : (body.drop (lacesL la)).length = body.length - lacesL la := List.length_drop
          have P2 : Hid ((w2.setCell ⟨pb, 5, none⟩ (.string ⟨(body.take (lacesL la)).toArray⟩)).drew.heap[pb]? = some (.cells #[.int .u8 h.fl.toNat, .int .u64 h.po, .int .u32 h.se, .int .u32 h.nu, .string ⟨la.toArray⟩, .string ⟨(body.take (lacesL la)).toArray⟩] 66 (0, 0))) := Lib.hid (setCell_at (j := 5) (v := .string ⟨(body.take (lacesL la)).toArray⟩) P.out)
          have hvne : (Value.slice a3 out.length cap3).ownBlock ≠ some pb := fun e => Nat.lt_irrefl _ (hvp pb e)
          have hKs := K.out.size
          have hdb : ∀ W : World, Below W.heap.size W W.drew := fun W => (Below.refl W.heap.size W).drew
          replace X := Lib.hid (block_below ((heap_set_other (j := 5) (.string ⟨(body.take (lacesL la)).toArray⟩) hrp).trans X.out) (hdb _))
          replace V := Lib.hid ((V.out.kept (row := some pb) (Only.set (b := pb) (j := 5) (.string ⟨(body.take (lacesL la)).toArray⟩)) (.inr hvne)).below (hdb _))
          replace K := Lib.hid (nextB (Below.setCell (p := ⟨pb, 5, none⟩) K.out (by have := HRB.out; show w.heap.size ≤ pb; omega) (.string ⟨(body.take (lacesL la)).toArray⟩)) (hdb _))
          clear P hdb
          have P := P2
          clear P2
          obtain ⟨bo, hbo⟩ : ∃ bo, bo = body.take (lacesL la) := ⟨_, rfl⟩
          rw [← hbo] at P X V K HO2
          rw [← hbo]
          have HBO := Lib.hid hbo
          clear hbo
          generalize (w2.setCell ⟨pb, 5, none⟩ (.string ⟨bo.toArray⟩)).drew = w4 at *
          generalize hlc : laces.drop m = lc at *
          generalize hbc : body.drop (lacesL la) = bc at *
          have HLC := Lib.hid hlc
          have HBC := Lib.hid hbc
          clear hlc hbc
          obtain ⟨x0, x1, x2, x3⟩ := cells4 (X.out)
          obtain ⟨y0, y1, y2, y3, y4, y5⟩ := cells6 (P.out); obtain ⟨yf0, yf1, yf2, yf3, yf4, yf5⟩ := frees6 (P.out)
          have EN := Lib.hid (fun w => ends_any la w (by omega))
          have wu : IntKind.u32.wrap (out.length : Int) = out.length := by simp [IntKind.wrap, IntKind.bits, IntKind.signed]; omega
          have wv : IntKind.u32.wrap ((h.nu : Int) + (out.length : Int)) = (((h.nu + out.length) % 4294967296 : Nat) : Int) := by simp [IntKind.wrap, IntKind.bits, IntKind.signed]
          have wan : bits .andNot .u8 (h.fl.toNat : Int) 1 = ((h.fl &&& 254).toNat : Int) := pk_andnot h.fl
          obtain ⟨nq, hnq⟩ : ∃ nq : Nat, nq = (h.nu + out.length) % 4294967296 := ⟨_, rfl⟩
          obtain ⟨fq, hfq⟩ : ∃ fq : UInt8, fq = h.fl &&& 254 := ⟨_, rfl⟩
          rw [← hnq] at wv HO2
          rw [← hfq] at wan HO2
          clear hnq hfq
          generalize endsB la = eb at *
          have hwp : w.heap.size ≤ pb := by have := HRB.out; omega
          rcases op with _ | _
          · rcases eb with _ | _
            · have OPN : Hid (∀ w, Calls Try.prog 86 #[.agg #[.int .u8 fq.toNat, .int .u64 18446744073709551615, .int .u32 h.se, .int .u32 (nq : Nat), .string ⟨la.toArray⟩, .string ⟨bo.toArray⟩]] w fun e w' => e = .returned (.bool (openB la)) ∧ Below w.heap.size w w') := Lib.hid (fun w => open_any ⟨fq, 18446744073709551615, h.se, nq, la, bo⟩ w (by show la.length ≤ _; omega))
              go_wp2_with (first | (go_at_call 85; (with_reducible refine (EN.out _).mono ?_); rintro e wx ⟨rfl, rfl⟩) | (go_at_call 86; (with_reducible refine (OPN.out _).mono ?_); rintro e w7 ⟨rfl, hb7⟩; have P7 : Hid (w7.heap[pb]? = some (.cells #[.int .u8 fq.toNat, .int .u64 18446744073709551615, .int .u32 h.se, .int .u32 (nq : Nat), .string ⟨la.toArray⟩, .string ⟨bo.toArray⟩] 66 (0, 0))) := Lib.hid (block_below (setCell_at (setCell_at (setCell_at P.out))) hb7); have V7 := Lib.hid ((V.out.kept (row := some pb) (((Only.set _).trans (Only.set _)).trans (Only.set _)) (.inr hvne)).below hb7); have K7 := Lib.hid (nextB (((K.out.setCell hwp _).setCell hwp _).setCell hwp _) hb7); have X7 := Lib.hid (block_below ((heap_set_other _ hrp).trans ((heap_set_other _ hrp).trans ((heap_set_other _ hrp).trans X.out))) hb7); clear hb7 y0 y1 y2 y3 y4 y5 yf0 yf1 yf2 yf3 yf4 yf5 x0 x1 x2 x3; obtain ⟨z0, z1, z2, z3, z4, z5⟩ := cells6 (P7.out); have hxl7 := (Array.getElem?_eq_some_iff.1 X7.out).1) | (at_builtin; refine wpList_pushR w7 rfl (.tmp 83) (.tmp 85) 60 rfl (rb + 1) 66 6 56 _ Try.underlying60 info_page rfl (by decide) (by decide) _ (out.map pgR) (pgR ⟨fq, 18446744073709551615, h.se, nq, la, bo⟩) _ (by rfl) rfl (one_pgR _) (by rfl) V7.out (by rfl) (by rw [List.length_map]; omega) (by omega) _ ?_; intro v5 w5 hr5 hg5; have hl5 := V7.out.lt; have V5 := Lib.hid hr5; have KG := Lib.hid (pk_grown (Below.refl (rb + 1) w7) hg5 (fun k e => (hl5 k e).1) (by omega)); clear hl5 hr5 hg5))
              have X9 := Lib.hid ((KG.out.block rb (by omega)).trans X7.out)
              have K9 := Lib.hid (K7.out.trans (KG.out.mono (by have := HRB.out; omega)))
              go_roundg g
              case measure => omega
              case rel =>
                refine ⟨lc, bc, out ++ [⟨fq, 18446744073709551615, h.se, nq, la, bo⟩], openB la, rfl, rfl, rfl, by omega, by rw [List.length_append]; simp; omega, by omega, Lib.hid (by rw [HLD.out, hb2]), Lib.hid ?_, X9, ?_, K9⟩
                · rw [List.append_assoc, List.length_append]; exact HO2.out
                · rw [List.map_append]; exact V5
            · have OPN : Hid (∀ w, Calls Try.prog 86 #[.agg #[.int .u8 fq.toNat, .int .u64 h.po, .int .u32 h.se, .int .u32 (nq : Nat), .string ⟨la.toArray⟩, .string ⟨bo.toArray⟩]] w fun e w' => e = .returned (.bool (openB la)) ∧ Below w.heap.size w w') := Lib.hid (fun w => open_any ⟨fq, h.po, h.se, nq, la, bo⟩ w (by show la.length ≤ _; omega))
              go_wp2_with (first | (go_at_call 85; (with_reducible refine (EN.out _).mono ?_); rintro e wx ⟨rfl, rfl⟩) | (go_at_call 86; (with_reducible refine (OPN.out _).mono ?_); rintro e w7 ⟨rfl, hb7⟩; have P7 : Hid (w7.heap[pb]? = some (.cells #[.int .u8 fq.toNat, .int .u64 h.po, .int .u32 h.se, .int .u32 (nq : Nat), .string ⟨la.toArray⟩, .string ⟨bo.toArray⟩] 66 (0, 0))) := Lib.hid (block_below (setCell_at (setCell_at P.out)) hb7); have V7 := Lib.hid ((V.out.kept (row := some pb) ((Only.set _).trans (Only.set _)) (.inr hvne)).below hb7); have K7 := Lib.hid (nextB ((K.out.setCell hwp _).setCell hwp _) hb7); have X7 := Lib.hid (block_below ((heap_set_other _ hrp).trans ((heap_set_other _ hrp).trans X.out)) hb7); clear hb7 y0 y1 y2 y3 y4 y5 yf0 yf1 yf2 yf3 yf4 yf5 x0 x1 x2 x3; obtain ⟨z0, z1, z2, z3, z4, z5⟩ := cells6 (P7.out); have hxl7 := (Array.getElem?_eq_some_iff.1 X7.out).1) | (at_builtin; refine wpList_pushR w7 rfl (.tmp 83) (.tmp 85) 60 rfl (rb + 1) 66 6 56 _ Try.underlying60 info_page rfl (by decide) (by decide) _ (out.map pgR) (pgR ⟨fq, h.po, h.se, nq, la, bo⟩) _ (by rfl) rfl (one_pgR _) (by rfl) V7.out (by rfl) (by rw [List.length_map]; omega) (by omega) _ ?_; intro v5 w5 hr5 hg5; have hl5 := V7.out.lt; have V5 := Lib.hid hr5; have KG := Lib.hid (pk_grown (Below.refl (rb + 1) w7) hg5 (fun k e => (hl5 k e).1) (by omega)); clear hl5 hr5 hg5))
              have X9 := Lib.hid ((KG.out.block rb (by omega)).trans X7.out)
              have K9 := Lib.hid (K7.out.trans (KG.out.mono (by have := HRB.out; omega)))
              go_roundg g
              case measure => omega
              case rel =>
                refine ⟨lc, bc, out ++ [⟨fq, h.po, h.se, nq, la, bo⟩], openB la, rfl, rfl, rfl, by omega, by rw [List.length_append]; simp; omega, by omega, Lib.hid (by rw [HLD.out, hb2]), Lib.hid ?_, X9, ?_, K9⟩
                · rw [List.append_assoc, List.length_append]; exact HO2.out
                · rw [List.map_append]; exact V5
          · rcases eb with _ | _
            · have OPN : Hid (∀ w, Calls Try.prog 86 #[.agg #[.int .u8 1, .int .u64 18446744073709551615, .int .u32 h.se, .int .u32 (nq : Nat), .string ⟨la.toArray⟩, .string ⟨bo.toArray⟩]] w fun e w' => e = .returned (.bool (openB la)) ∧ Below w.heap.size w w') := Lib.hid (fun w => open_any ⟨1, 18446744073709551615, h.se, nq, la, bo⟩ w (by show la.length ≤ _; omega))
              go_wp2_with (first | (go_at_call 85; (with_reducible refine (EN.out _).mono ?_); rintro e wx ⟨rfl, rfl⟩) | (go_at_call 86; (with_reducible refine (OPN.out _).mono ?_); rintro e w7 ⟨rfl, hb7⟩; have P7 : Hid (w7.heap[pb]? = some (.cells #[.int .u8 1, .int .u64 18446744073709551615, .int .u32 h.se, .int .u32 (nq : Nat), .string ⟨la.toArray⟩, .string ⟨bo.toArray⟩] 66 (0, 0))) := Lib.hid (block_below (setCell_at (setCell_at (setCell_at P.out))) hb7); have V7 := Lib.hid ((V.out.kept (row := some pb) (((Only.set _).trans (Only.set _)).trans (Only.set _)) (.inr hvne)).below hb7); have K7 := Lib.hid (nextB (((K.out.setCell hwp _).setCell hwp _).setCell hwp _) hb7); have X7 := Lib.hid (block_below ((heap_set_other _ hrp).trans ((heap_set_other _ hrp).trans ((heap_set_other _ hrp).trans X.out))) hb7); clear hb7 y0 y1 y2 y3 y4 y5 yf0 yf1 yf2 yf3 yf4 yf5 x0 x1 x2 x3; obtain ⟨z0, z1, z2, z3, z4, z5⟩ := cells6 (P7.out); have hxl7 := (Array.getElem?_eq_some_iff.1 X7.out).1) | (at_builtin; refine wpList_pushR w7 rfl (.tmp 83) (.tmp 85) 60 rfl (rb + 1) 66 6 56 _ Try.underlying60 info_page rfl (by decide) (by decide) _ (out.map pgR) (pgR ⟨1, 18446744073709551615, h.se, nq, la, bo⟩) _ (by rfl) rfl (one_pgR _) (by rfl) V7.out (by rfl) (by rw [List.length_map]; omega) (by omega) _ ?_; intro v5 w5 hr5 hg5; have hl5 := V7.out.lt; have V5 := Lib.hid hr5; have KG := Lib.hid (pk_grown (Below.refl (rb + 1) w7) hg5 (fun k e => (hl5 k e).1) (by omega)); clear hl5 hr5 hg5))
              have X9 := Lib.hid ((KG.out.block rb (by omega)).trans X7.out)
              have K9 := Lib.hid (K7.out.trans (KG.out.mono (by have := HRB.out; omega)))
              go_roundg g
              case measure => omega
              case rel =>
                refine ⟨lc, bc, out ++ [⟨1, 18446744073709551615, h.se, nq, la, bo⟩], openB la, rfl, rfl, rfl, by omega, by rw [List.length_append]; simp; omega, by omega, Lib.hid (by rw [HLD.out, hb2]), Lib.hid ?_, X9, ?_, K9⟩
                · rw [List.append_assoc, List.length_append]; exact HO2.out
                · rw [List.map_append]; exact V5
            · have OPN : Hid (∀ w, Calls Try.prog 86 #[.agg #[.int .u8 1, .int .u64 h.po, .int .u32 h.se, .int .u32 (nq : Nat), .string ⟨la.toArray⟩, .string ⟨bo.toArray⟩]] w fun e w' => e = .returned (.bool (openB la)) ∧ Below w.heap.size w w') := Lib.hid (fun w => open_any ⟨1, h.po, h.se, nq, la, bo⟩ w (by show la.length ≤ _; omega))
              go_wp2_with (first | (go_at_call 85; (with_reducible refine (EN.out _).mono ?_); rintro e wx ⟨rfl, rfl⟩) | (go_at_call 86; (with_reducible refine (OPN.out _).mono ?_); rintro e w7 ⟨rfl, hb7⟩; have P7 : Hid (w7.heap[pb]? = some (.cells #[.int .u8 1, .int .u64 h.po, .int .u32 h.se, .int .u32 (nq : Nat), .string ⟨la.toArray⟩, .string ⟨bo.toArray⟩] 66 (0, 0))) := Lib.hid (block_below (setCell_at (setCell_at P.out)) hb7); have V7 := Lib.hid ((V.out.kept (row := some pb) ((Only.set _).trans (Only.set _)) (.inr hvne)).below hb7); have K7 := Lib.hid (nextB ((K.out.setCell hwp _).setCell hwp _) hb7); have X7 := Lib.hid (block_below ((heap_set_other _ hrp).trans ((heap_set_other _ hrp).trans X.out)) hb7); clear hb7 y0 y1 y2 y3 y4 y5 yf0 yf1 yf2 yf3 yf4 yf5 x0 x1 x2 x3; obtain ⟨z0, z1, z2, z3, z4, z5⟩ := cells6 (P7.out); have hxl7 := (Array.getElem?_eq_some_iff.1 X7.out).1) | (at_builtin; refine wpList_pushR w7 rfl (.tmp 83) (.tmp 85) 60 rfl (rb + 1) 66 6 56 _ Try.underlying60 info_page rfl (by decide) (by decide) _ (out.map pgR) (pgR ⟨1, h.po, h.se, nq, la, bo⟩) _ (by rfl) rfl (one_pgR _) (by rfl) V7.out (by rfl) (by rw [List.length_map]; omega) (by omega) _ ?_; intro v5 w5 hr5 hg5; have hl5 := V7.out.lt; have V5 := Lib.hid hr5; have KG := Lib.hid (pk_grown (Below.refl (rb + 1) w7) hg5 (fun k e => (hl5 k e).1) (by omega)); clear hl5 hr5 hg5))
              have X9 := Lib.hid ((KG.out.block rb (by omega)).trans X7.out)
              have K9 := Lib.hid (K7.out.trans (KG.out.mono (by have := HRB.out; omega)))
              go_roundg g
              case measure => omega
              case rel =>
                refine ⟨lc, bc, out ++ [⟨1, h.po, h.se, nq, la, bo⟩], openB la, rfl, rfl, rfl, by omega, by rw [List.length_append]; simp; omega, by omega, Lib.hid (by rw [HLD.out, hb2]), Lib.hid ?_, X9, ?_, K9⟩
                · rw [List.append_assoc, List.length_append]; exact HO2.out
                · rw [List.map_append]; exact V5
end Go.Proofs.Ytmnmonmbdgedbaa
