/- Layer 18 (packet): the law of short pages, walked. -/
import Derived.Test.YtmnmonmbdgedbaaPk17
namespace Go.Proofs.Ytmnmonmbdgedbaa
open Go.RowKit Go.ChangeShapes Go.WideShapes Go.Deep
set_option linter.unusedVariables false
set_option linter.unusedSimpArgs false

theorem keep4 {V W w : World} {b : Nat} {v0 v1 v2 v3 : Value} (hb : Below V.heap.size V W) (k : Below W.heap.size W w) (hx : b < V.heap.size)
    (h : V.cell? ⟨b, 0, none⟩ = some v0 ∧ V.cell? ⟨b, 1, none⟩ = some v1 ∧ V.cell? ⟨b, 2, none⟩ = some v2 ∧ V.cell? ⟨b, 3, none⟩ = some v3) :
    w.cell? ⟨b, 0, none⟩ = some v0 ∧ w.cell? ⟨b, 1, none⟩ = some v1 ∧ w.cell? ⟨b, 2, none⟩ = some v2 ∧ w.cell? ⟨b, 3, none⟩ = some v3 := by
  have hb2 := nextB hb k
  have e : ∀ j, w.cell? ⟨b, j, none⟩ = V.cell? ⟨b, j, none⟩ := fun j => hb2.cell (p := ⟨b, j, none⟩) hx
  rw [e, e, e, e]
  exact h
theorem sum_take {α : Type} (l : List α) (f : α → Nat) (j : Nat) (h : j < l.length) : ((l.take (j + 1)).map f).sum = ((l.take j).map f).sum + f l[j] := by
  rw [List.take_succ_eq_append_getElem h, List.map_append, List.sum_append]
  simp
theorem made_map (L : List Nat) (g : Nat → Nat) : (madeS L).map (fun p => g p.length) = L.map (fun z => g (z % 9000)) := by
  refine List.ext_getElem (by rw [List.length_map, List.length_map, madeS_len]) (fun i h1 h2 => ?_)
  have hi : i < L.length := by simpa using h2
  rw [List.getElem_map, List.getElem_map, madeS_get L i hi, madeB_len]
theorem made_sum (L : List Nat) : (madeS L).flatten.length = (L.map (fun z => z % 9000)).sum := by
  rw [List.length_flatten, ← made_map L (fun x => x)]
theorem made_lsum (L : List Nat) : ((madeS L).map (fun p => laceL p.length)).flatten.length = (L.map (fun z => z % 9000 / 255 + 1)).sum := by
  rw [List.length_flatten, List.map_map, ← made_map L (fun x => x / 255 + 1)]
  congr 1
  refine List.map_congr_left (fun p _ => ?_)
  exact laceL_length p.length
theorem take_sum_le {α : Type} (l : List α) (f : α → Nat) (M j : Nat) (h : ∀ x ∈ l, f x ≤ M) (hj : j ≤ l.length) : ((l.take j).map f).sum ≤ M * j := by
  induction j with
  | zero => simp
  | succ j ih =>
    have h1 := ih (by omega)
    have h2 := h l[j] (List.getElem_mem (by omega))
    rw [sum_take l f j (by omega), Nat.mul_succ]
    omega
set_option maxRecDepth 100000 in
theorem pshort_over (u : Value) (a : Option Addr) (n cap : Nat) (w : World) (hn : (12 : Int) < n) (hu : ∃ (fl : UInt8) (po se nu : Nat), u = .agg #[.int .u8 fl.toNat, .int .u64 po, .int .u32 se, .int .u32 nu]) :
    Calls Try.prog 11 #[u, .slice a n cap] w fun e w' => e = .returned (.bool true) ∧ Below w.heap.size w w' := by
  have AW := Lib.hid awake18'
  obtain ⟨fl, po, se, nu, rfl⟩ := hu
  go_enter Try.func11, Try.ntmps11
  go_wp2_with (go_at_call 32; (with_reducible refine (AW.out _).mono ?_); rintro e w3 ⟨rfl, hb3⟩; have K := Lib.hid (below_a1 hb3); clear hb3)
  go_ret
  exact ⟨rfl, K.out⟩
set_option maxHeartbeats 4000000 in
set_option maxRecDepth 100000 in
theorem pshort_in (fl : UInt8) (po se nu : Nat) (a : Option Addr) (n cap : Nat) (L : List Nat) (w : World) (hpo : po < 18446744073709551616) (hse : se < 4294967296) (hnu : nu < 4294967296) (hs : Hid (U16At w a n L)) (hn : n ≤ 12) :
    Calls Try.prog 11 #[.agg #[.int .u8 fl.toNat, .int .u64 po, .int .u32 se, .int .u32 nu], .slice a n cap] w fun e w' => e = .returned (.bool true) ∧ Below w.heap.size w w' := by
  have AW := Lib.hid awake18'
  have hLn : L.length = n := hs.out.1
  have hml := made_laces L
  have hmf := made_flat L
  rw [hLn] at hml hmf
  have hok : Pg.Ok ⟨fl, po, se, nu, [], []⟩ := ⟨hpo, hse, hnu⟩
  have MA := Lib.hid (fun w h => pmade_any a n cap L w h (by omega))
  have hs1 := made_sum L
  have hs2 := made_lsum L
  obtain ⟨ps, hps⟩ : ∃ ps, ps = madeS L := ⟨_, rfl⟩
  have hpn : ps.length = n := by rw [hps, madeS_len, hLn]
  rw [← hps] at hml hmf MA hs1 hs2
  clear hps
  have PG : Hid (∀ a' c' w', Hid (StrsAt w' a' n ps) → n ≤ c' → Calls Try.prog 41 #[.agg #[.int .u8 fl.toNat, .int .u64 po, .int .u32 se, .int .u32 nu], .slice a' n c'] w' fun e w'' => ∃ u, e = .returned u ∧ Recs w'' w'.heap.size 66 6 u ((pagesP ⟨fl, po, se, nu, [], []⟩ ps).map pgR) ∧ Below w'.heap.size w' w'') := Lib.hid (fun a' c' w' h hc => ppages_any ⟨fl, po, se, nu, [], []⟩ hok a' n c' ps w' h hc (by omega) (by omega))
  have hfi := pages_fine ⟨fl, po, se, nu, [], []⟩ ps
  have hpl := pages_len ⟨fl, po, se, nu, [], []⟩ ps
  generalize hPS : pagesP ⟨fl, po, se, nu, [], []⟩ ps = PS at *
  clear hPS
  obtain ⟨N, hN⟩ : ∃ N, N = PS.length := ⟨_, rfl⟩
  rw [← hN] at hpl
  rw [hs1, hs2] at hfi
  have hNb : N ≤ 432 := by omega
  obtain ⟨hfi0, hfi2, hfi3⟩ := hfi
  have hfi1 : ∀ i (hi : i < PS.length), PgFine ⟨fl, po, se, nu, [], []⟩ N i PS[i] := fun i hi => by rw [hN]; exact hfi0 i hi
  have HFI := Lib.hid hfi1
  have HF2 := Lib.hid hfi2
  have HF3 := Lib.hid hfi3
  have HNL := Lib.hid hN
  have HPN := Lib.hid hpn
  have HLN := Lib.hid hLn
  clear hLn hml hmf hpo hse hok hfi0 hfi1 hfi2 hfi3 hpl hN hpn hs1 hs2
  have hni : ¬ (12 : Int) < n := by omega
  have hX := at_a0 w #[.int .u8 fl.toNat, .int .u64 po, .int .u32 se, .int .u32 nu] 64
  have hB := (Below.refl w.heap.size w).alloc (Nat.le_refl _) (.cells #[.int .u8 fl.toNat, .int .u64 po, .int .u32 se, .int .u32 nu] 64)
  have X := Lib.hid hX
  have K := Lib.hid hB
  have S := Lib.hid (hs.out.below hB)
  clear hX hB hs
  go_enter Try.func11, Try.ntmps11
  go_upto_region 1 with (fail)
  generalize w.alloc (.cells #[.int .u8 fl.toNat, .int .u64 po, .int .u32 se, .int .u32 nu] 64) = w0 at *
  obtain ⟨hb, hhb⟩ : ∃ hb, hb = w.heap.size := ⟨_, rfl⟩
  rw [← hhb] at X
  rw [← hhb]
  have HHB := Lib.hid hhb
  clear hhb
  go_upto_region 3 with (fail)
  have cc : w0.cell? ⟨hb, 0, none⟩ = some (.int .u8 fl.toNat) ∧ w0.cell? ⟨hb, 1, none⟩ = some (.int .u64 po) ∧ w0.cell? ⟨hb, 2, none⟩ = some (.int .u32 se) ∧ w0.cell? ⟨hb, 3, none⟩ = some (.int .u32 nu) := ⟨cell_at (j := 0) X.out, cell_at (j := 1) X.out, cell_at (j := 2) X.out, cell_at (j := 3) X.out⟩
  have hxb := (Array.getElem?_eq_some_iff.1 X.out).1
  go_region_held3 (fun w' => w'.cell? ⟨hb, 0, none⟩ = some (.int .u8 fl.toNat) ∧ w'.cell? ⟨hb, 1, none⟩ = some (.int .u64 po) ∧ w'.cell? ⟨hb, 2, none⟩ = some (.int .u32 se) ∧ w'.cell? ⟨hb, 3, none⟩ = some (.int .u32 nu)) (first | exact cc | exact x2 | exact x1 | fail) (first | (go_at_call 40; (with_reducible refine (MA.out _ (Lib.hid (S.out.below (drewB (Below.refl _ _))))).mono ?_); rintro e w1 ⟨u1, rfl, hr1, hb1⟩; have k1 := Lib.hid (drewB hb1); have x1 := keep4 k1.out (Below.refl _ _) hxb cc; clear hb1; obtain ⟨a1, n1, c1, rfl, hn1, hc1, hst1⟩ := strs_of hr1; rw [HPN.out] at hn1; subst hn1; have S1 := Lib.hid hst1; clear hr1 hst1) | (go_at_call 41; (with_reducible refine (PG.out _ _ _ S1 hc1).mono ?_); rintro e w2 ⟨u2, rfl, hr2, hb2⟩; have k2 := Lib.hid (nextB k1.out hb2); have x2 := keep4 k2.out (Below.refl _ _) hxb cc; clear hb2 x1; obtain ⟨a2, c2, hu2, hc2, hat2⟩ := hr2.at; rw [List.length_map, ← HNL.out] at hu2 hc2 hat2; subst hu2; have S2 := Lib.hid hat2; clear hr2 hat2))
  replace X := Lib.hid (block_below X.out k2.out)
  replace K := Lib.hid (nextB K.out k2.out)
  replace S := Lib.hid (S.out.below k2.out)
  clear cc hxb k1 k2 x2 MA PG S1
  have hNi : (N : Int) ≤ 432 := by omega
  obtain ⟨LT, hLT⟩ : ∃ LT, LT = (PS.map (fun p => p.la.length)).sum := ⟨_, rfl⟩
  obtain ⟨BT, hBT⟩ : ∃ BT, BT = (PS.map (fun p => p.bo.length)).sum := ⟨_, rfl⟩
  rw [← hLT] at HF2
  rw [← hBT] at HF3
  have HLT := Lib.hid hLT
  have HBT := Lib.hid hBT
  clear hLT hBT
  have HA : Hid (∀ j, j ≤ PS.length → ((PS.take j).map (fun p => p.la.length)).sum ≤ 255 * j ∧ ((PS.take j).map (fun p => p.bo.length)).sum ≤ 65025 * j) := Lib.hid (fun j hj => by
    refine ⟨take_sum_le PS _ 255 j (fun p hp => ?_) hj, take_sum_le PS _ 65025 j (fun p hp => ?_) hj⟩
    · obtain ⟨i, hi, rfl⟩ := List.getElem_of_mem hp
      exact (HFI.out i hi).2.1
    · obtain ⟨i, hi, rfl⟩ := List.getElem_of_mem hp
      have h1 := HFI.out i hi
      have h2 := laces_le PS[i].la PS[i].la.length (Nat.le_refl _)
      rw [List.take_length] at h2
      have := h1.2.2.1
      have := h1.2.1
      omega)
  have BD := Lib.hid (fun w => bad_any 0 0 w)
  rw [show ((0 : Int) != 0) = false by rfl] at BD
  go_wp2
  go_loopw [6, 7, 22] (fun s6 s7 i wr => ∃ (j A B : Nat), j ≤ N ∧ s6 = .int .i64 A ∧ s7 = .int .i64 B ∧ i = .int .i64 j ∧ Hid (A = ((PS.take j).map (fun p => p.la.length)).sum) ∧ Hid (B = ((PS.take j).map (fun p => p.bo.length)).sum) ∧ Hid (Below w2.heap.size w2 wr)) (fun _ _ i _ => N - (intOf i).toNat)
  case atStart => exact ⟨0, 0, 0, by omega, rfl, rfl, rfl, Lib.hid rfl, Lib.hid rfl, Lib.hid (Below.refl _ _)⟩
  case round =>
    obtain ⟨j, A, B, hj, rfl, rfl, rfl, HAj, HBj, Q⟩ := hrel
    have hab := HA.out j (by rw [← HNL.out]; exact hj)
    rw [← HAj.out, ← HBj.out] at hab
    obtain ⟨hab1, hab2⟩ := hab
    by_cases hlt : j < N
    · have g0 : (j : Int) < N := by omega
      have hjl : j < PS.length := by have := HNL.out; omega
      obtain ⟨b, off, rfl, hbb, c0, c1', c2', c3, c4', c5'⟩ := pk_cells (S2.out.below Q.out) j hjl
      have hfj := HFI.out j hjl
      have HA1 := Lib.hid (show A + PS[j].la.length = ((PS.take (j + 1)).map (fun p => p.la.length)).sum by rw [sum_take PS _ j hjl, HAj.out])
      have HB1 := Lib.hid (show B + PS[j].bo.length = ((PS.take (j + 1)).map (fun p => p.bo.length)).sum by rw [sum_take PS _ j hjl, HBj.out])
      generalize PS[j] = p at *
      obtain ⟨f, o, s, m, la, bo⟩ := p
      obtain ⟨r1, r2, r3, r4, r5, r6, -⟩ := hfj
      simp only at r1 r2 r3 r4 r5 r6 HA1 HB1 c0 c1' c2' c3 c4' c5'
      have r4' := r4.symm
      subst r4'
      clear r4
      have hll := laces_le la la.length (Nat.le_refl _)
      rw [List.take_length] at hll
      have CK : Hid (∀ w, Calls Try.prog 44 #[.agg #[.int .u8 f.toNat, .int .u64 o, .int .u32 se, .int .u32 (m : Nat), .string ⟨la.toArray⟩, .string ⟨bo.toArray⟩]] w fun e w' => e = .returned (.agg #[.int .i64 0, .int .i64 0]) ∧ Below w.heap.size w w') := Lib.hid (fun w => by
        have h := check_any ⟨f, o, se, m, la, bo⟩ w (by show la.length ≤ _; omega)
        have hc : checkC ⟨f, o, se, m, la, bo⟩ = 0 := by
          unfold checkC
          have h1 : ¬ 255 < la.length := by omega
          have h2 : ¬ bo.length ≠ lacesL la := by omega
          simp only [h1, h2, if_false]
        rw [hc] at h
        exact h)
      have wu : IntKind.u32.wrap (j : Int) = j := by simp [IntKind.wrap, IntKind.bits, IntKind.signed]; omega
      have wv : IntKind.u32.wrap ((nu : Int) + (j : Int)) = (m : Int) := by rw [r5]; simp [IntKind.wrap, IntKind.bits, IntKind.signed]
      have t1 : decide ((la.length : Int) < 1) = false := decide_eq_false (by omega)
      have t2 : decide ((255 : Int) < la.length) = false := decide_eq_false (by omega)
      have t3 : decide ((65025 : Int) < bo.length) = false := decide_eq_false (by omega)
      have R6 := Lib.hid r6
      have hbo : bo.length ≤ 65025 := by omega
      clear r3 r5 hll r6
      go_upto_region 8 with (fail)
      have P := Lib.hid (at_a0 wr #[.int .u8 f.toNat, .int .u64 o, .int .u32 se, .int .u32 (m : Nat), .string ⟨la.toArray⟩, .string ⟨bo.toArray⟩] 66)
      have hB := (Below.refl wr.heap.size wr).alloc (Nat.le_refl _) (.cells #[.int .u8 f.toNat, .int .u64 o, .int .u32 se, .int .u32 (m : Nat), .string ⟨la.toArray⟩, .string ⟨bo.toArray⟩] 66)
      replace Q := Lib.hid (nextB Q.out hB)
      clear hB c0 c1' c2' c3 c4' c5'
      generalize wr.alloc (.cells #[.int .u8 f.toNat, .int .u64 o, .int .u32 se, .int .u32 (m : Nat), .string ⟨la.toArray⟩, .string ⟨bo.toArray⟩] 66) = w6 at *
      generalize wr.heap.size = pb at *
      have Y := Lib.hid (block_below X.out Q.out)
      obtain ⟨x0, x1, x2, x3, x4, x5⟩ := cells6 (P.out)
      obtain ⟨y0, y1, y2, y3⟩ := cells4 (Y.out)
      by_cases hlast : j + 1 < N
      · have hl := R6.out hlast
        have t0 : decide ((j : Int) < (N : Int) - 1) = true := decide_eq_true (by omega)
        have t4 : ((la.length : Int) != 255) = false := by rw [hl]; rfl
        clear hl hlast
        go_wp2_with (first | (go_at_call 44; (with_reducible refine (CK.out _).mono ?_); rintro e w7 ⟨rfl, hb7⟩; replace P := Lib.hid (block_below P.out hb7); replace Y := Lib.hid (block_below Y.out hb7); replace Q := Lib.hid (nextB Q.out hb7); clear hb7 x0 x1 x2 x3 x4 x5 y0 y1 y2 y3) | (go_at_call 16; (with_reducible refine (BD.out _).mono ?_); rintro e w8 ⟨rfl, hb8⟩; replace P := Lib.hid (block_below P.out hb8); replace Y := Lib.hid (block_below Y.out hb8); replace Q := Lib.hid (nextB Q.out hb8); clear hb8; obtain ⟨z0, z1, z2, z3, z4, z5⟩ := cells6 (P.out); obtain ⟨v0, v1, v2, v3⟩ := cells4 (Y.out)))
        exact ⟨⟨j + 1, A + la.length, B + bo.length, by omega, by simp, by simp, by simp, HA1, HB1, Q⟩, by simp [intOf]; omega⟩
      · have t0 : decide ((j : Int) < (N : Int) - 1) = false := decide_eq_false (by omega)
        clear hlast
        go_wp2_with (first | (go_at_call 44; (with_reducible refine (CK.out _).mono ?_); rintro e w7 ⟨rfl, hb7⟩; replace P := Lib.hid (block_below P.out hb7); replace Y := Lib.hid (block_below Y.out hb7); replace Q := Lib.hid (nextB Q.out hb7); clear hb7 x0 x1 x2 x3 x4 x5 y0 y1 y2 y3) | (go_at_call 16; (with_reducible refine (BD.out _).mono ?_); rintro e w8 ⟨rfl, hb8⟩; replace P := Lib.hid (block_below P.out hb8); replace Y := Lib.hid (block_below Y.out hb8); replace Q := Lib.hid (nextB Q.out hb8); clear hb8; obtain ⟨z0, z1, z2, z3, z4, z5⟩ := cells6 (P.out); obtain ⟨v0, v1, v2, v3⟩ := cells4 (Y.out)))
        exact ⟨⟨j + 1, A + la.length, B + bo.length, by omega, by simp, by simp, by simp, HA1, HB1, Q⟩, by simp [intOf]; omega⟩
    · have g0 : ¬ (j : Int) < N := by omega
      have hf : PS.take j = PS := List.take_of_length_le (by have := HNL.out; omega)
      rw [hf] at HAj HBj
      have hAL : A = LT := by rw [HAj.out, HLT.out]
      have hBL : B = BT := by rw [HBj.out, HBT.out]
      have hltb : LT ≤ 255 * 432 := by omega
      have hbtb : BT ≤ 65025 * 432 := by omega
      rw [hAL, hBL]
      clear hf HAj HBj hAL hBL hab1 hab2
      replace S := Lib.hid (S.out.below Q.out)
      replace K := Lib.hid (nextB K.out Q.out)
      clear Q S2 X
      have hni2 : (n1 : Int) ≤ 12 := by omega
      have HC : Hid (∀ k, k ≤ L.length → ((L.take k).map (fun z => z % 9000 / 255 + 1)).sum ≤ 36 * k ∧ ((L.take k).map (fun z => z % 9000)).sum ≤ 8999 * k) := Lib.hid (fun k hk => ⟨take_sum_le L _ 36 k (fun z _ => by omega) hk, take_sum_le L _ 8999 k (fun z _ => by omega) hk⟩)
      go_wp2
      go_loopw [6, 7, 93] (fun s6 s7 i wx => ∃ (k C D : Nat), k ≤ n1 ∧ s6 = .int .i64 ((LT : Int) - C) ∧ s7 = .int .i64 ((BT : Int) - D) ∧ i = .int .i64 k ∧ Hid (C = ((L.take k).map (fun z => z % 9000 / 255 + 1)).sum) ∧ Hid (D = ((L.take k).map (fun z => z % 9000)).sum) ∧ wx = wr) (fun _ _ i _ => n1 - (intOf i).toNat)
      case atStart => exact ⟨0, 0, 0, by omega, by simp, by simp, rfl, Lib.hid rfl, Lib.hid rfl, rfl⟩
      case round =>
        obtain ⟨k, C, D, hk, rfl, rfl, rfl, HCk, HDk, rfl⟩ := hrel
        have hcd := HC.out k (by rw [HLN.out]; exact hk)
        rw [← HCk.out, ← HDk.out] at hcd
        obtain ⟨hcd1, hcd2⟩ := hcd
        by_cases hkn : k < n1
        · have g1 : (k : Int) < n1 := by omega
          have hkl : k < L.length := by rw [HLN.out]; exact hkn
          obtain ⟨b, off, rfl, hbb, hc⟩ : ∃ b off, a = some ⟨b, off, none⟩ ∧ b < wr.heap.size ∧ wr.cell? ⟨b, off + k, none⟩ = some (.int .u16 (L[k] : Nat)) := by
            rcases S.out.2.2 with h0 | ⟨b, off, ha, hb, hc⟩
            · omega
            · exact ⟨b, off, ha, hb, hc k hkl⟩
          have hx := S.out.2.1 L[k] (List.getElem_mem hkl)
          have HC1 := Lib.hid (show C + (L[k] % 9000 / 255 + 1) = ((L.take (k + 1)).map (fun z => z % 9000 / 255 + 1)).sum by rw [sum_take L _ k hkl, HCk.out])
          have HD1 := Lib.hid (show D + L[k] % 9000 = ((L.take (k + 1)).map (fun z => z % 9000)).sum by rw [sum_take L _ k hkl, HDk.out])
          obtain ⟨m, hm⟩ : ∃ m, m = L[k] % 9000 := ⟨_, rfl⟩
          have hmi : ((L[k] : Nat) : Int) % 9000 = (m : Int) := by omega
          have hm9 : m < 9000 := by omega
          rw [← hm] at HC1 HD1
          generalize L[k] = z at *
          clear hm
          obtain ⟨d, hd⟩ : ∃ d, d = m / 255 := ⟨_, rfl⟩
          have hdi : (m : Int) / 255 = (d : Int) := by omega
          have hd9 : d ≤ 36 := by omega
          rw [← hd] at HC1
          clear hd
          go_wp2
          exact ⟨⟨k + 1, C + (d + 1), D + m, by omega, by simp; omega, by simp; omega, by simp, HC1, HD1, by first | rfl | trivial⟩, by simp [intOf]; omega⟩
        · have g1 : ¬ (k : Int) < n1 := by omega
          have hf : L.take k = L := List.take_of_length_le (by rw [HLN.out]; omega)
          rw [hf] at HCk HDk
          have hCL : C = LT := by rw [HCk.out, HF2.out]
          have hDL : D = BT := by rw [HDk.out, HF3.out]
          rw [hCL, hDL]
          have z1 : (LT : Int) - LT = 0 := by omega
          have z2 : (BT : Int) - BT = 0 := by omega
          rw [z1, z2]
          clear hf HCk HDk hCL hDL z1 z2
          go_wp2_with (go_at_call 32; (with_reducible refine (AW.out _).mono ?_); rintro e w9 ⟨rfl, hb9⟩; replace K := Lib.hid (nextB K.out hb9); clear hb9)
          go_ret
          exact ⟨rfl, K.out⟩
theorem walk_PacketShort (w : World) (v : Value) (hv : HeadIn v) (u : Value) (hu : U16In w u) : Calls Try.prog 11 #[v, u] w fun e w' => e = .returned (.bool true) ∧ Below w.heap.size w w' := by
  obtain ⟨fl, po, se, nu, rfl, h1, h2, h3⟩ := hv
  obtain ⟨a, n, cap, L, rfl, hs, hcap, hn⟩ := hu
  by_cases hl : n ≤ 12
  · exact pshort_in fl po se nu a n cap L w h1 h2 h3 (Lib.hid hs) hl
  · exact pshort_over _ a n cap w (by omega) ⟨fl, po, se, nu, rfl⟩
end Go.Proofs.Ytmnmonmbdgedbaa
