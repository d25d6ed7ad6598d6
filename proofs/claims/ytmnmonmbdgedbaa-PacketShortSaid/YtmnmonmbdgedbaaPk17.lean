/- Layer 18 (packet): the law of pages, walked. -/
import Derived.Test.YtmnmonmbdgedbaaPk16
import Derived.Test.YtmnmonmbdgedbaaPk11
import Derived.Test.YtmnmonmbdgedbaaPk12
import Derived.Test.YtmnmonmbdgedbaaPk14
namespace Go.Proofs.Ytmnmonmbdgedbaa
open Go.RowKit Go.ChangeShapes Go.WideShapes Go.Deep
set_option linter.unusedVariables false
set_option linter.unusedSimpArgs false

section
variable {H : Type} {enc : TypeId × Value → H} {w : World} {base : Nat} {spare : Nat → Bool} {held : Bool} {v : Value} {d : DataW H} {p : List MemPlace} {r : Reach} {b0 : Nat}
def HeadIn (v : Value) : Prop := ∃ (fl : UInt8) (po se nu : Nat), v = .agg #[.int .u8 fl.toNat, .int .u64 po, .int .u32 se, .int .u32 nu] ∧ po < 18446744073709551616 ∧ se < 4294967296 ∧ nu < 4294967296
set_option maxRecDepth 100000 in
theorem open_head (hv : Value.okWide Try.prog w r b0 64 v) (h : DataW.Trod enc Try.prog w base spare held 64 v d p) : HeadIn v := by
  obtain ⟨cs, rfl, hsz⟩ := okWide_struct Try.underlying64 hv
  have h4 : cs.size = 4 := hsz.trans (by kernel_rfl)
  obtain ⟨fuel, hf⟩ := h
  obtain ⟨l⟩ := cs
  have h4' : l.length = 4 := by simpa using h4
  match l, h4' with
  | [c0, c1, c2, c3], _ =>
    obtain ⟨fl, po, se, nu, rfl, rfl, rfl, rfl, g1, g2, g3⟩ := head_cells (c0 := c0) (c1 := c1) (c2 := c2) (c3 := c3) (by simpa [Value.cells] using hf)
    exact ⟨fl, po, se, nu, rfl, g1, g2, g3⟩
end
theorem made_laces (L : List Nat) : ((madeS L).map (fun p => laceL p.length)).flatten.length ≤ 36 * L.length := by
  have h := flat_len ((madeS L).map (fun p => laceL p.length)) 36 (by
    intro q hq
    obtain ⟨p, hp, rfl⟩ := List.mem_map.1 hq
    have := madeS_bound L p hp
    rw [laceL_length]
    omega)
  rw [List.length_map, madeS_len] at h
  exact h
theorem made_flat (L : List Nat) : (madeS L).flatten.length ≤ 8999 * L.length := by
  have h := flat_len (madeS L) 8999 (madeS_bound L)
  rw [madeS_len] at h
  exact h
set_option maxRecDepth 100000 in
theorem ppages_over (u : Value) (a : Option Addr) (n cap : Nat) (w : World) (hn : (12 : Int) < n) (hu : ∃ (fl : UInt8) (po se nu : Nat), u = .agg #[.int .u8 fl.toNat, .int .u64 po, .int .u32 se, .int .u32 nu]) :
    Calls Try.prog 10 #[u, .slice a n cap] w fun e w' => e = .returned (.bool true) ∧ Below w.heap.size w w' := by
  have AW := Lib.hid awake18'
  obtain ⟨fl, po, se, nu, rfl⟩ := hu
  go_enter Try.func10, Try.ntmps10
  go_wp2_with (go_at_call 32; (with_reducible refine (AW.out _).mono ?_); rintro e w3 ⟨rfl, hb3⟩; have K := Lib.hid (below_a1 hb3); clear hb3)
  go_ret
  exact ⟨rfl, K.out⟩
set_option maxHeartbeats 4000000 in
set_option maxRecDepth 100000 in
theorem ppages_in (fl : UInt8) (po se nu : Nat) (a : Option Addr) (n cap : Nat) (L : List Nat) (w : World) (hpo : po < 18446744073709551616) (hse : se < 4294967296) (hnu : nu < 4294967296) (hs : Hid (U16At w a n L)) (hn : n ≤ 12) :
    Calls Try.prog 10 #[.agg #[.int .u8 fl.toNat, .int .u64 po, .int .u32 se, .int .u32 nu], .slice a n cap] w fun e w' => e = .returned (.bool true) ∧ Below w.heap.size w w' := by
  have AW := Lib.hid awake18'
  have hLn : L.length = n := hs.out.1
  have hml := made_laces L
  have hmf := made_flat L
  rw [hLn] at hml hmf
  have hok : Pg.Ok ⟨fl, po, se, nu, [], []⟩ := ⟨hpo, hse, hnu⟩
  have MA := Lib.hid (fun w h => pmade_any a n cap L w h (by omega))
  obtain ⟨ps, hps⟩ : ∃ ps, ps = madeS L := ⟨_, rfl⟩
  have hpn : ps.length = n := by rw [hps, madeS_len, hLn]
  rw [← hps] at hml hmf MA
  clear hps
  have PG : Hid (∀ a' c' w', Hid (StrsAt w' a' n ps) → n ≤ c' → Calls Try.prog 41 #[.agg #[.int .u8 fl.toNat, .int .u64 po, .int .u32 se, .int .u32 nu], .slice a' n c'] w' fun e w'' => ∃ u, e = .returned u ∧ Recs w'' w'.heap.size 66 6 u ((pagesP ⟨fl, po, se, nu, [], []⟩ ps).map pgR) ∧ Below w'.heap.size w' w'') := Lib.hid (fun a' c' w' h hc => ppages_any ⟨fl, po, se, nu, [], []⟩ hok a' n c' ps w' h hc (by omega) (by omega))
  have RG : Hid (∀ a' c' w', Hid (StrsAt w' a' n ps) → n ≤ c' → Calls Try.prog 42 #[.agg #[.int .i64 fl.toNat, .int .u64 po, .int .u64 se, .int .u64 nu, .string ⟨#[]⟩, .string ⟨#[]⟩], .slice a' n c'] w' fun e w'' => ∃ u, e = .returned u ∧ Recs w'' w'.heap.size 81 6 u ((pagesP ⟨fl, po, se, nu, [], []⟩ ps).map rgR) ∧ Below w'.heap.size w' w'') := Lib.hid (fun a' c' w' h hc => rppages_any ⟨fl, po, se, nu, [], []⟩ hok a' n c' ps w' h hc (by omega) (by omega))
  have OF : Hid (∀ w', Calls Try.prog 43 #[.agg #[.int .u8 fl.toNat, .int .u64 po, .int .u32 se, .int .u32 nu, .string ⟨#[]⟩, .string ⟨#[]⟩]] w' fun e w'' => e = .returned (.agg #[.int .i64 fl.toNat, .int .u64 po, .int .u64 se, .int .u64 nu, .string ⟨#[]⟩, .string ⟨#[]⟩]) ∧ Below w'.heap.size w' w'') := Lib.hid (fun w' => of_any ⟨fl, po, se, nu, [], []⟩ w' hok)
  have hfi := pages_fine ⟨fl, po, se, nu, [], []⟩ ps
  have hpl := pages_len ⟨fl, po, se, nu, [], []⟩ ps
  have hjp := join_pages2 ⟨fl, po, se, nu, [], []⟩ ps
  generalize hPS : pagesP ⟨fl, po, se, nu, [], []⟩ ps = PS at *
  clear hPS
  obtain ⟨N, hN⟩ : ∃ N, N = PS.length := ⟨_, rfl⟩
  rw [← hN] at hpl
  have hbd : ∀ p ∈ PS, p.la.length ≤ 255 ∧ p.bo.length ≤ 65025 ∧ p.Ok := by
    intro p hp
    obtain ⟨i, hi, rfl⟩ := List.getElem_of_mem hp
    have h1 := hfi.1 i hi
    have h2 := laces_le PS[i].la PS[i].la.length (Nat.le_refl _)
    rw [List.take_length] at h2
    refine ⟨h1.2.1, by have := h1.2.2.1; have := h1.2.1; omega, ?_, ?_, ?_⟩
    · rcases h1.2.2.2.2.2.2 with h3 | h3
      · rw [h3]; exact hpo
      · rw [h3]; decide
    · rw [h1.2.2.2.1]; exact hse
    · rw [h1.2.2.2.2.1]; exact Nat.mod_lt _ (by decide)
  have hNb : N ≤ 432 := by omega
  have OL : Hid (∀ a' c' w', Hid (RecsAt w' a' N 6 (PS.map pgR)) → Calls Try.prog 38 #[.slice a' N c'] w' fun e w'' => ∃ u, e = .returned u ∧ Recs w'' w'.heap.size 81 6 u (PS.map rgR) ∧ Below w'.heap.size w' w'') := Lib.hid (fun a' c' w' h => pof_any a' N c' PS w' h (by omega) (Lib.hid (fun p hp => (hbd p hp).2.2)))
  have PJ : Hid (∀ a' c' w', Hid (RecsAt w' a' N 6 (PS.map pgR)) → Calls Try.prog 36 #[.slice a' N c'] w' fun e w'' => ∃ u, e = .returned (.tuple #[u, .agg #[.int .i64 0, .int .i64 0]]) ∧ Recs w'' w'.heap.size 9 1 u (ps.map strR) ∧ Below w'.heap.size w' w'') := Lib.hid (fun a' c' w' h => by
    have k := pjoin_any a' N c' PS w' h (by omega) (Lib.hid (fun p hp => by have := hbd p hp; omega))
    rw [hjp] at k
    exact k)
  have HNL := Lib.hid hN
  have HPN := Lib.hid hpn
  clear hLn hml hmf hpo hse hnu hok hfi hpl hjp hN hbd hpn
  have hni : ¬ (12 : Int) < n := by omega
  have hX := at_a0 w #[.int .u8 fl.toNat, .int .u64 po, .int .u32 se, .int .u32 nu] 64
  have hB := (Below.refl w.heap.size w).alloc (Nat.le_refl _) (.cells #[.int .u8 fl.toNat, .int .u64 po, .int .u32 se, .int .u32 nu] 64)
  have X := Lib.hid hX
  have K := Lib.hid hB
  have S := Lib.hid (hs.out.below hB)
  clear hX hB hs
  go_enter Try.func10, Try.ntmps10
  go_upto_region 1 with (fail)
  generalize w.alloc (.cells #[.int .u8 fl.toNat, .int .u64 po, .int .u32 se, .int .u32 nu] 64) = w0 at *
  obtain ⟨hb, hhb⟩ : ∃ hb, hb = w.heap.size := ⟨_, rfl⟩
  rw [← hhb] at X
  rw [← hhb]
  have HHB := Lib.hid hhb
  clear hhb
  go_upto_region 4 with (go_at_call 40; (with_reducible refine (MA.out _ S).mono ?_); rintro e w1 ⟨u1, rfl, hr1, hb1⟩; replace X := Lib.hid (block_below X.out hb1); replace K := Lib.hid (nextB K.out hb1); clear hb1; obtain ⟨a1, n1, c1, rfl, hn1, hc1, hst1⟩ := strs_of hr1; rw [HPN.out] at hn1; subst hn1; have S1 := Lib.hid hst1; clear hr1 hst1)
  obtain ⟨x0, x1, x2, x3⟩ := cells4 (X.out)
  go_upto_region 5 with (go_at_call 41; (with_reducible refine (PG.out _ _ _ S1 hc1).mono ?_); rintro e w2 ⟨u2, rfl, hr2, hb2⟩; replace X := Lib.hid (block_below X.out hb2); replace S1 := Lib.hid (S1.out.below hb2); replace K := Lib.hid (nextB K.out hb2); clear hb2; obtain ⟨a2, c2, hu2, hc2, hat2⟩ := hr2.at; rw [List.length_map, ← HNL.out] at hu2 hc2 hat2; subst hu2; have S2 := Lib.hid hat2; clear hr2 hat2)
  clear x0 x1 x2 x3
  obtain ⟨y0, y1, y2, y3⟩ := cells4 (X.out)
  go_upto_region 6 with (first | (go_at_call 43; (with_reducible refine (OF.out _).mono ?_); rintro e w3 ⟨rfl, hb3⟩; replace S1 := Lib.hid (S1.out.below hb3); replace S2 := Lib.hid (S2.out.below hb3); replace K := Lib.hid (nextB K.out hb3); clear hb3) | (go_at_call 42; (with_reducible refine (RG.out _ _ _ S1 hc1).mono ?_); rintro e w4 ⟨u4, rfl, hr4, hb4⟩; replace S1 := Lib.hid (S1.out.below hb4); replace S2 := Lib.hid (S2.out.below hb4); replace K := Lib.hid (nextB K.out hb4); clear hb4; obtain ⟨a4, c4, hu4, hc4, hat4⟩ := hr4.at; rw [List.length_map, ← HNL.out] at hu4 hc4 hat4; subst hu4; have S4 := Lib.hid hat4; clear hr4 hat4))
  clear y0 y1 y2 y3
  go_upto_region 9 with (go_at_call 38; (with_reducible refine (OL.out _ _ _ S2).mono ?_); rintro e w5 ⟨u5, rfl, hr5, hb5⟩; replace S1 := Lib.hid (S1.out.below hb5); replace S2 := Lib.hid (S2.out.below hb5); replace S4 := Lib.hid (S4.out.below hb5); replace K := Lib.hid (nextB K.out hb5); clear hb5; obtain ⟨a5, c5, hu5, hc5, hat5⟩ := hr5.at; rw [List.length_map, ← HNL.out] at hu5 hc5 hat5; subst hu5; have S5 := Lib.hid hat5; clear hr5 hat5)
  clear S X MA PG RG OF OL
  have hNi : (N : Int) ≤ 432 := by omega
  go_loopw [34] (fun i wr => ∃ (j : Nat), j ≤ N ∧ i = .int .i64 j ∧ Hid (Below w5.heap.size w5 wr)) (fun i _ => N - (intOf i).toNat)
  case atStart => exact ⟨0, by omega, rfl, Lib.hid (Below.refl _ _)⟩
  case round =>
    obtain ⟨j, hj, rfl, Q⟩ := hrel
    by_cases hlt : j < N
    · have g0 : (j : Int) < N := by omega
      have hjl : j < PS.length := by have := HNL.out; omega
      obtain ⟨b, off, rfl, hbb, c0, c1', c2', c3, c4', c5'⟩ := pk_rcells (S5.out.below Q.out) j hjl
      obtain ⟨d, eff, rfl, hdd, d0, d1, d2, d3, d4, d5⟩ := pk_rcells (S4.out.below Q.out) j hjl
      generalize PS[j] = p at *
      go_upto_region 11 with (fail)
      have P := Lib.hid (at_a0 wr #[.int .i64 p.fl.toNat, .int .u64 p.po, .int .u64 p.se, .int .u64 p.nu, .string ⟨p.la.toArray⟩, .string ⟨p.bo.toArray⟩] 81)
      have hB := (Below.refl wr.heap.size wr).alloc (Nat.le_refl _) (.cells #[.int .i64 p.fl.toNat, .int .u64 p.po, .int .u64 p.se, .int .u64 p.nu, .string ⟨p.la.toArray⟩, .string ⟨p.bo.toArray⟩] 81)
      have e0 := (hB.cell (p := ⟨d, eff + j * 6, none⟩) hdd).trans d0
      have e1 := (hB.cell (p := ⟨d, eff + j * 6 + 1, none⟩) hdd).trans d1
      have e2 := (hB.cell (p := ⟨d, eff + j * 6 + 2, none⟩) hdd).trans d2
      have e3 := (hB.cell (p := ⟨d, eff + j * 6 + 3, none⟩) hdd).trans d3
      have e4 := (hB.cell (p := ⟨d, eff + j * 6 + 4, none⟩) hdd).trans d4
      have e5 := (hB.cell (p := ⟨d, eff + j * 6 + 5, none⟩) hdd).trans d5
      replace Q := Lib.hid (nextB Q.out hB)
      clear hB c0 c1' c2' c3 c4' c5' d0 d1 d2 d3 d4 d5
      generalize wr.alloc (.cells #[.int .i64 p.fl.toNat, .int .u64 p.po, .int .u64 p.se, .int .u64 p.nu, .string ⟨p.la.toArray⟩, .string ⟨p.bo.toArray⟩] 81) = w6 at *
      generalize wr.heap.size = pb at *
      obtain ⟨x0, x1, x2, x3, x4, x5⟩ := cells6 (P.out)
      go_quiet (fail)
      go_wp2
      exact ⟨⟨j + 1, by omega, by simp, Lib.hid ⟨Q.out.os, Q.out.tape, Q.out.output, Q.out.size, Q.out.block⟩⟩, by simp [intOf]; omega⟩
    · have g0 : ¬ (j : Int) < N := by omega
      have K2 := Lib.hid (nextB K.out Q.out)
      have A1 := Lib.hid (S1.out.below Q.out)
      have A2 := Lib.hid (S2.out.below Q.out)
      clear K S1 S2 S4 S5 Q
      go_upto_region 15 with (go_at_call 36; (with_reducible refine (PJ.out _ _ _ A2).mono ?_); rintro e w7 ⟨u7, rfl, hr7, hb7⟩; replace K2 := Lib.hid (nextB K2.out hb7); replace A1 := Lib.hid (A1.out.below hb7); clear hb7; obtain ⟨a7, n7, c7, rfl, hn7, hc7, hst7⟩ := strs_of hr7; rw [HPN.out] at hn7; subst hn7; have A7 := Lib.hid hst7; clear hr7 hst7)
      have F := Lib.hid (at_a0 w7 #[.int .i64 0, .int .i64 0] 31)
      have hB := (Below.refl w7.heap.size w7).alloc (Nat.le_refl _) (.cells #[.int .i64 0, .int .i64 0] 31)
      replace A1 := Lib.hid (A1.out.below hB)
      replace A7 := Lib.hid (A7.out.below hB)
      replace K2 := Lib.hid (nextB K2.out hB)
      clear hB
      generalize w7.alloc (.cells #[.int .i64 0, .int .i64 0] 31) = w8 at *
      generalize w7.heap.size = fb at *
      have BD := Lib.hid (fun w => bad_any 0 0 w)
      rw [show ((0 : Int) != 0) = false by rfl] at BD
      have SM := Lib.hid (fun w h1 h2 => psame_yes a7 a1 n7 c7 c1 ps w h1 h2 (by omega))
      go_wp2_with (first | (go_at_call 32; (with_reducible refine (AW.out _).mono ?_); rintro e w9 ⟨rfl, hb9⟩; replace F := Lib.hid (block_below F.out hb9); replace K2 := Lib.hid (nextB K2.out hb9); replace A1 := Lib.hid (A1.out.below hb9); replace A7 := Lib.hid (A7.out.below hb9); clear hb9; obtain ⟨f0, f1⟩ := cells2 (F.out)) | (go_at_call 16; (with_reducible refine (BD.out _).mono ?_); rintro e w10 ⟨rfl, hb10⟩; replace K2 := Lib.hid (nextB K2.out hb10); replace A1 := Lib.hid (A1.out.below hb10); replace A7 := Lib.hid (A7.out.below hb10); clear hb10) | (go_at_call 39; (with_reducible refine (SM.out _ A7 A1).mono ?_); rintro e w11 ⟨rfl, hb11⟩; replace K2 := Lib.hid (nextB K2.out hb11); clear hb11))
      go_ret
      exact ⟨rfl, K2.out⟩
theorem walk_PacketPages (w : World) (v : Value) (hv : HeadIn v) (u : Value) (hu : U16In w u) : Calls Try.prog 10 #[v, u] w fun e w' => e = .returned (.bool true) ∧ Below w.heap.size w w' := by
  obtain ⟨fl, po, se, nu, rfl, h1, h2, h3⟩ := hv
  obtain ⟨a, n, cap, L, rfl, hs, hcap, hn⟩ := hu
  by_cases hl : n ≤ 12
  · exact ppages_in fl po se nu a n cap L w h1 h2 h3 (Lib.hid hs) hl
  · exact ppages_over _ a n cap w (by omega) ⟨fl, po, se, nu, rfl⟩
end Go.Proofs.Ytmnmonmbdgedbaa
