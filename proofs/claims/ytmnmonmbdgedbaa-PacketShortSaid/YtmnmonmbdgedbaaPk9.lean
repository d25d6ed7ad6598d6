/- Layer 18 (packet): the document's Join, walked. -/
import Derived.Test.YtmnmonmbdgedbaaPk8
import Derived.Deep.DeepCutAuto
namespace Go.Proofs.Ytmnmonmbdgedbaa
open Go.RowKit
set_option linter.unusedVariables false
set_option linter.unusedSimpArgs false

theorem pk_rcells {w : World} {a : Option Addr} {n : Nat} {L : List Pg} (h : RecsAt w a n 6 (L.map rgR)) (k : Nat) (hk : k < L.length) : ∃ b off, a = some ⟨b, off, none⟩ ∧ b < w.heap.size ∧
    w.cell? ⟨b, off + k * 6, none⟩ = some (.int .i64 L[k].fl.toNat) ∧ w.cell? ⟨b, off + k * 6 + 1, none⟩ = some (.int .u64 L[k].po) ∧ w.cell? ⟨b, off + k * 6 + 2, none⟩ = some (.int .u64 L[k].se) ∧
    w.cell? ⟨b, off + k * 6 + 3, none⟩ = some (.int .u64 L[k].nu) ∧ w.cell? ⟨b, off + k * 6 + 4, none⟩ = some (.string ⟨L[k].la.toArray⟩) ∧ w.cell? ⟨b, off + k * 6 + 5, none⟩ = some (.string ⟨L[k].bo.toArray⟩) := by
  have hn := h.1
  rcases h.2.2 with h0 | ⟨b, off, ha, hb, hc⟩
  · simp at hn; omega
  · have hk' : k < (L.map rgR).length := by simpa using hk
    have e : (L.map rgR)[k] = rgR L[k] := by simp
    have k0 := hc k hk' 0 (by decide)
    have k1 := hc k hk' 1 (by decide)
    have k2 := hc k hk' 2 (by decide)
    have k3 := hc k hk' 3 (by decide)
    have k4 := hc k hk' 4 (by decide)
    have k5 := hc k hk' 5 (by decide)
    rw [e] at k0 k1 k2 k3 k4 k5
    exact ⟨b, off, ha, hb, k0, k1, k2, k3, k4, k5⟩
theorem recs_off {w : World} {base e size pb : Nat} {v : Value} {L : List (List Value)} {C : Array Value} {T : TypeId} {q : Nat × Nat} (h : Recs w base e size v L) (hp : w.heap[pb]? = some (.cells C T q)) (hne : e ≠ T) : v.ownBlock ≠ some pb := by
  rcases h.2.2 with ⟨rfl, _⟩ | ⟨g, cap, cur, rfl, hb, hg, _⟩
  · intro e; cases e
  · intro e
    obtain rfl : g = pb := by simpa [Value.ownBlock] using e
    rw [hg] at hp
    simp only [Option.some.injEq, Obj.cells.injEq] at hp
    exact hne hp.2.1
theorem rls_pos (body : List UInt8) : ∀ (l : List UInt8) (s : Rl), (l.foldl (rlStep body) s).pos = s.pos + lacesL l
  | [], s => rfl
  | c :: l, s => by
    rw [List.foldl_cons, rls_pos body l, laces_cons]
    unfold rlStep
    split
    · rename_i e; subst e; show s.pos + 255 + _ = _; rw [show (255 : UInt8).toNat = 255 from rfl]; omega
    · show s.pos + c.toNat + _ = _; omega
theorem opensB_nil (op : Bool) : opensB [] op = op := if_pos rfl
theorem pk_odd_n : ∀ n : Nat, n < 256 → (((n : Int) % 2) == 1) = (n &&& 1 == 1) := by decide +kernel
theorem pk_odd (c : UInt8) : (((c.toNat : Int) % 2) == 1) = hasB c 1 := by
  rw [pk_odd_n c.toNat (UInt8.toNat_lt c)]
  unfold hasB
  rw [Bool.eq_iff_iff, beq_iff_eq, beq_iff_eq, u8_eq, UInt8.toNat_and]
  rfl
set_option maxHeartbeats 4000000 in
set_option maxRecDepth 100000 in
theorem rpjoin_any (a : Option Addr) (n cap : Nat) (ps : List Pg) (w : World) (hs : Hid (RecsAt w a n 6 (ps.map rgR))) (hn : n ≤ 1000) (hb : Hid (∀ p ∈ ps, p.la.length ≤ 1000 ∧ p.bo.length ≤ 1000000)) :
    Calls Try.prog 37 #[.slice a n cap] w fun e w' => ∃ u, e = .returned (.tuple #[u, .int .i64 (rjoinS ps 0 [] [] false).2]) ∧ Recs w' w.heap.size 9 1 u ((rjoinS ps 0 [] [] false).1.map strR) ∧ Below w.heap.size w w' := by
  have HL : Hid (ps.length = n) := Lib.hid (by simpa using hs.out.1)
  have hni : (n : Int) ≤ 1000 := by omega
  obtain ⟨res, hres⟩ : ∃ r, r = rjoinS ps 0 [] [] false := ⟨_, rfl⟩
  have HR := Lib.hid hres.symm
  rw [← hres]
  clear hres
  go_enter Try.func37, Try.ntmps37
  go_wp2
  go_loopw [4, 5, 6, 7] (fun u4 s5 s6 i wr => ∃ (j : Nat) (acc : List (List UInt8)) (part : List UInt8) (op : Bool), j ≤ n ∧ s5 = .string ⟨part.toArray⟩ ∧ s6 = .bool op ∧ i = .int .i64 j ∧ part.length ≤ 1000000 * j ∧ acc.length ≤ 1000 * j ∧ Hid (rjoinS (ps.drop j) j acc part op = res) ∧ Hid (Recs wr w.heap.size 9 1 u4 (acc.map strR)) ∧ Hid (Below w.heap.size w wr)) (fun _ _ _ i _ => n - (intOf i).toNat)
  case atStart => exact ⟨0, [], [], false, by omega, rfl, rfl, rfl, by simp, by simp, HR, Lib.hid (Recs.nil _ _ _ _), Lib.hid (Below.refl _ _)⟩
  case round =>
    obtain ⟨j, acc, part, op, hj, rfl, rfl, rfl, hpl, hal, HA, V, K⟩ := hrel
    by_cases hlt : j < n
    · have g0 : (j : Int) < n := by omega
      have hjl : j < ps.length := by rw [HL.out]; exact hlt
      have hA := HA.out
      rw [List.drop_eq_getElem_cons hjl, rjoinS] at hA
      obtain ⟨b, off, rfl, hbb, c0, c1, c2, c3, c4, c5⟩ := pk_rcells (hs.out.below K.out) j hjl
      have hpb := hb.out ps[j] (List.getElem_mem hjl)
      generalize ps[j] = p at *
      have CK := Lib.hid (fun w => rcheck_any p w (by omega))
      unfold rgV rgR at CK
      have ho := pk_odd p.fl
      go_upto_region 8 with (fail)
      have P := Lib.hid (at_a0 wr #[.int .i64 p.fl.toNat, .int .u64 p.po, .int .u64 p.se, .int .u64 p.nu, .string ⟨p.la.toArray⟩, .string ⟨p.bo.toArray⟩] 81)
      have hB := (Below.refl wr.heap.size wr).alloc (Nat.le_refl _) (.cells #[.int .i64 p.fl.toNat, .int .u64 p.po, .int .u64 p.se, .int .u64 p.nu, .string ⟨p.la.toArray⟩, .string ⟨p.bo.toArray⟩] 81)
      replace V := Lib.hid (V.out.below hB)
      replace K := Lib.hid (nextB K.out hB)
      clear hB c0 c1 c2 c3 c4 c5
      generalize wr.alloc (.cells #[.int .i64 p.fl.toNat, .int .u64 p.po, .int .u64 p.se, .int .u64 p.nu, .string ⟨p.la.toArray⟩, .string ⟨p.bo.toArray⟩] 81) = w1 at *
      generalize wr.heap.size = pb at *
      obtain ⟨x0, x1, x2, x3, x4, x5⟩ := cells6 (P.out)
      by_cases hck : checkC p = 0
      · have t1 : (checkC p != 0) = false := by rw [hck]; rfl
        by_cases hop : hasB p.fl 1 = op
        · rw [if_neg (by intro h; rcases h with h | h; exact h hck; exact h hop)] at hA
          have HA2 := Lib.hid hA
          rw [hop] at ho
          clear hA HA hop
          have hbl : p.bo.length = lacesL p.la := by
            unfold checkC at hck
            split at hck
            · cases hck
            · split at hck
              · cases hck
              · rename_i h; exact Classical.byContradiction h
          clear hck
          have hoo : (op != op) = false := bne_self_eq_false op
          go_upto_region 10 with (go_at_call 83; (with_reducible refine (CK.out _).mono ?_); rintro e w3 ⟨rfl, hb3⟩; replace P := Lib.hid (block_below P.out hb3); replace V := Lib.hid (V.out.below hb3); replace K := Lib.hid (nextB K.out hb3); clear hb3 x0 x1 x2 x3 x4 x5; obtain ⟨y0, y1, y2, y3, y4, y5⟩ := cells6 (P.out))
          have hA3 := HA2.out
          clear y0 y1 y2 y3 y4 y5 ho CK t1
          obtain ⟨bo, hbo⟩ : ∃ x, x = p.bo := ⟨_, rfl⟩
          obtain ⟨la, hla⟩ : ∃ x, x = p.la := ⟨_, rfl⟩
          rw [← hla] at P hbl hA3 hpb
          rw [← hbo] at P hbl hA3 hpb
          clear hbo hla
          have HBL := Lib.hid hbl
          have HA3 := Lib.hid hA3
          obtain ⟨hpb1, hpb2⟩ := hpb
          clear hbl hA3 HA2 hoo
          go_wp2
          go_loopw [4, 5, 6, 9, 10] (fun u4 s5 s6 s9 s10 wx => ∃ (k : Nat) (r : Rl) (o : Bool), k ≤ la.length ∧ s5 = .string ⟨r.part.toArray⟩ ∧ s6 = .bool o ∧ s9 = .int .i64 r.pos ∧ s10 = .int .i64 k ∧ r.pos ≤ 1000000 ∧ r.part.length ≤ 1000000 * j + r.pos ∧ r.acc.length ≤ acc.length + k ∧ Hid (rls bo (la.take k) acc part = r) ∧ Hid (opensB (la.take k) op = o) ∧ Hid (wx.heap[pb]? = some (.cells #[.int .i64 p.fl.toNat, .int .u64 p.po, .int .u64 p.se, .int .u64 p.nu, .string ⟨la.toArray⟩, .string ⟨bo.toArray⟩] 81 (0, 0))) ∧ Hid (Recs wx w.heap.size 9 1 u4 (r.acc.map strR)) ∧ Hid (Below w.heap.size w wx)) (fun _ _ _ _ s10 _ => la.length - (intOf s10).toNat)
          case atStart => exact ⟨0, ⟨acc, part, 0⟩, op, Nat.zero_le _, rfl, rfl, rfl, rfl, by show 0 ≤ _; omega, by show part.length ≤ _ + 0; omega, Nat.le_refl _, Lib.hid rfl, Lib.hid rfl, P, V, K⟩
          case round =>
            clear P V K
            obtain ⟨k, r, o, hk, rfl, rfl, rfl, rfl, hrp, hrl, hra, HS, HO, P, V, K⟩ := hrel
            obtain ⟨y0, y1, y2, y3, y4, y5⟩ := cells6 (P.out)
            have hps : r.pos = lacesL (la.take k) := by
              rw [← HS.out]
              have h := rls_pos bo (la.take k) ⟨acc, part, 0⟩
              show ((la.take k).foldl (rlStep bo) ⟨acc, part, 0⟩).pos = _
              rw [h]
              exact Nat.zero_add _
            by_cases hkl : k < la.length
            · have g1 : (k : Int) < la.length := by omega
              have hlt2 := laces_take la k hkl
              have hle2 : lacesL (la.take (k + 1)) ≤ lacesL la := by
                have h := laces_app (la.take (k + 1)) (la.drop (k + 1))
                rw [List.take_append_drop] at h
                omega
              rw [← HBL.out] at hle2
              have hc := byte_le la[k]
              have HS1 := Lib.hid (show rls bo (la.take (k + 1)) acc part = rlStep bo r la[k] by rw [List.take_succ_eq_append_getElem hkl, rls_snoc, HS.out])
              have HO1 := Lib.hid (show opensB (la.take (k + 1)) op = (la[k] == 255) by rw [List.take_succ_eq_append_getElem hkl, opensB_snoc])
              go_upto_region 15 with (fail)
              generalize la[k] = c at *
              have hlo : (r.pos : Int) + (c.toNat : Int) ≤ bo.length := by omega
              have hcat : ¬ 9223372036854775807 < r.part.length + min c.toNat (bo.length - r.pos) := by omega
              have hsl : ((bo.drop r.pos).take c.toNat).length = c.toNat := by rw [List.length_take, List.length_drop]; omega
              have hmin : min c.toNat (bo.length - r.pos) = c.toNat := by omega
              clear hle2 hlt2 hps
              by_cases hz : c = 255
              · have HS2 := Lib.hid (show rlStep bo r c = ⟨r.acc, r.part ++ (bo.drop r.pos).take c.toNat, r.pos + c.toNat⟩ by unfold rlStep; rw [if_pos hz, hz, show (255 : UInt8).toNat = 255 from rfl])
                have t3 : ((c.toNat : Int) == 255) = true := by rw [hz]; rfl
                have HO2 : Hid ((c == 255) = true) := Lib.hid (by rw [hz]; rfl)
                clear hz
                go_wp2
                refine ⟨⟨k + 1, ⟨r.acc, r.part ++ (bo.drop r.pos).take c.toNat, r.pos + c.toNat⟩, true, by omega, by simp, rfl, by simp, by simp, by show r.pos + c.toNat ≤ _; omega, by show (r.part ++ _).length ≤ 1000000 * j + (r.pos + c.toNat); rw [List.length_append, hsl]; omega, by show r.acc.length ≤ _; omega, Lib.hid (by rw [HS1.out, HS2.out]), Lib.hid (by rw [HO1.out, HO2.out]), P, V, K⟩, by simp [intOf]; omega⟩
              · have HS2 := Lib.hid (show rlStep bo r c = ⟨r.acc ++ [r.part ++ (bo.drop r.pos).take c.toNat], [], r.pos + c.toNat⟩ by unfold rlStep; rw [if_neg hz])
                have t3 : ((c.toNat : Int) == 255) = false := by
                  simp only [beq_eq_false_iff_ne, ne_eq]
                  intro e
                  exact hz (by rw [u8_eq]; show c.toNat = 255; omega)
                have HO2 : Hid ((c == 255) = false) := Lib.hid (by simpa using hz)
                clear hz
                have hpn := recs_off V.out P.out (by decide)
                have hpl2 := (Array.getElem?_eq_some_iff.1 P.out).1
                have hKs := K.out.size
                go_wp2_with (at_builtin; refine wpList_pushR wr rfl (.tmp 62) (.tmp 64) 67 rfl w.heap.size 9 1 16 _ Try.underlying67 info_strs rfl (by decide) (by decide) _ (r.acc.map strR) (strR (r.part ++ (bo.drop r.pos).take c.toNat)) _ (by rfl) rfl (one_strR _) (by rfl) V.out (by rfl) (by rw [List.length_map]; omega) (by omega) _ ?_; intro v5 w5 hr5 hg5; have hl5 := V.out.lt; have V5 := Lib.hid hr5; have P5 := Lib.hid ((hg5.block pb hpl2 (fun e => hpn e.symm)).trans P.out); have K5 := Lib.hid (pk_grown K.out hg5 (fun k e => (hl5 k e).1) (by omega)); clear hl5 hr5 hg5)
                refine ⟨⟨k + 1, ⟨r.acc ++ [r.part ++ (bo.drop r.pos).take c.toNat], [], r.pos + c.toNat⟩, false, by omega, by simp, rfl, by simp, by simp, by show r.pos + c.toNat ≤ _; omega, by show 0 ≤ _; omega, by show (r.acc ++ _).length ≤ _; rw [List.length_append]; show _ + 1 ≤ _; omega, Lib.hid (by rw [HS1.out, HS2.out]), Lib.hid (by rw [HO1.out, HO2.out]), P5, Lib.hid (by show Recs _ _ _ _ _ (List.map strR (r.acc ++ [_])); rw [List.map_append]; exact V5.out), K5⟩, by simp [intOf]; omega⟩
            · have g1 : ¬ (k : Int) < la.length := by omega
              have hkk : k = la.length := by omega
              have hA4 := HA3.out
              have hHS := HS.out
              have hHO := HO.out
              rw [hkk, List.take_length] at hHS hHO
              rw [hHS, hHO] at hA4
              have HA4 := Lib.hid hA4
              clear hA4 hHS hHO hps HS HO HA3
              go_wp2
              exact ⟨⟨j + 1, r.acc, r.part, o, by omega, rfl, rfl, by simp, by omega, by omega, HA4, V, K⟩, by simp [intOf]; omega⟩
        · rw [if_pos (.inr hop)] at hA
          have HB := Lib.hid hA
          clear hA HA hck
          generalize hasB p.fl 1 = hq at *
          rcases hq with _ | _
          · rcases op with _ | _
            · exact absurd rfl hop
            · skip
              clear hop
              go_wp2_with (go_at_call 83; (with_reducible refine (CK.out _).mono ?_); rintro e w3 ⟨rfl, hb3⟩; replace P := Lib.hid (block_below P.out hb3); replace K := Lib.hid (nextB K.out hb3); clear hb3 x0 x1 x2 x3 x4 x5; obtain ⟨y0, y1, y2, y3, y4, y5⟩ := cells6 (P.out))
              go_ret2
              exact ⟨_, by rw [← HB.out]; rfl, by rw [← HB.out]; exact Recs.nil _ _ _ _, K.out⟩
          · rcases op with _ | _
            · skip
              clear hop
              go_wp2_with (go_at_call 83; (with_reducible refine (CK.out _).mono ?_); rintro e w3 ⟨rfl, hb3⟩; replace P := Lib.hid (block_below P.out hb3); replace K := Lib.hid (nextB K.out hb3); clear hb3 x0 x1 x2 x3 x4 x5; obtain ⟨y0, y1, y2, y3, y4, y5⟩ := cells6 (P.out))
              go_ret2
              exact ⟨_, by rw [← HB.out]; rfl, by rw [← HB.out]; exact Recs.nil _ _ _ _, K.out⟩
            · exact absurd rfl hop
      · have t1 : (checkC p != 0) = true := by simpa using hck
        rw [if_pos (.inl hck)] at hA
        have HB := Lib.hid hA
        clear hA HA hck ho
        go_wp2_with (go_at_call 83; (with_reducible refine (CK.out _).mono ?_); rintro e w3 ⟨rfl, hb3⟩; replace P := Lib.hid (block_below P.out hb3); replace K := Lib.hid (nextB K.out hb3); clear hb3 x0 x1 x2 x3 x4 x5; obtain ⟨y0, y1, y2, y3, y4, y5⟩ := cells6 (P.out))
        go_ret2
        exact ⟨_, by rw [← HB.out]; rfl, by rw [← HB.out]; exact Recs.nil _ _ _ _, K.out⟩
    · have g0 : ¬ (j : Int) < n := by omega
      have hjn : j = n := by omega
      subst hjn
      have hA := HA.out
      rw [List.drop_eq_nil_of_le (by rw [HL.out]; exact Nat.le_refl _), rjoinS] at hA
      have HB := Lib.hid hA
      clear hA HA
      rcases op with _ | _
      · go_wp2
        go_ret2
        exact ⟨_, by rw [← HB.out]; rfl, by rw [← HB.out]; exact V.out, K.out⟩
      · go_wp2
        go_ret2
        exact ⟨_, by rw [← HB.out]; rfl, by rw [← HB.out]; exact Recs.nil _ _ _ _, K.out⟩
end Go.Proofs.Ytmnmonmbdgedbaa
