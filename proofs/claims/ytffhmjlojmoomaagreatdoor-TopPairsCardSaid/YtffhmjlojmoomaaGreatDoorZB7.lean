/- Layer 8 (big5): the two bytes of the signs with which some begin, walked. | Layer 8 (big5), plain: the two bytes of a sign, or of two, lead back to them. -/
import Derived.Test.YtffhmjlojmoomaaGreatDoorZB5

namespace Go.Proofs.YtffhmjlojmoomaaGreatDoor
open Go.RowKit
set_option linter.unusedVariables false
set_option linter.unusedSimpArgs false

def twG (p : Nat) (r : List Nat) : List (Nat × Nat × Nat) → Option Nat
  | [] => none
  | x :: L => if p = x.2.1 ∧ r.head? = some x.2.2 then some x.1 else twG p r L
def spanG (p : Nat) : List ((Nat × Nat) × List Nat) → Option Nat
  | [] => none
  | x :: L => match x.2.findIdx? (· == p) with
    | some k => some (x.1.1 * 256 + (secB (cellB x.1.2 + k)).toNat)
    | none => spanG p L
/-- the code of the signs with which some begin, and how many signs that are -/
def bytB (C : Cst) (p : Nat) (r : List Nat) : Option (Nat × Nat) := match twG p r twB with
  | some s => some (34816 + s, 2)
  | none => (spanG p (spB C)).map (fun c => (c, 1))
def bTxt (o : Option (Nat × Nat)) : List UInt8 := match o with | some x => bigL x.1 2 | none => []
def bCnt (o : Option (Nat × Nat)) : Nat := match o with | some x => x.2 | none => 0
theorem twG_drop (p : Nat) (r : List Nat) (L : List (Nat × Nat × Nat)) (k : Nat) (hk : k < L.length) : twG p r (L.drop k) = if p = L[k].2.1 ∧ r.head? = some L[k].2.2 then some L[k].1 else twG p r (L.drop (k + 1)) := by
  rw [List.drop_eq_getElem_cons hk]
  rfl
theorem spanG_drop (p : Nat) (L : List ((Nat × Nat) × List Nat)) (k : Nat) (hk : k < L.length) : spanG p (L.drop k) = match L[k].2.findIdx? (· == p) with
    | some i => some (L[k].1.1 * 256 + (secB (cellB L[k].1.2 + i)).toNat)
    | none => spanG p (L.drop (k + 1)) := by
  rw [List.drop_eq_getElem_cons hk]
  rfl
def lnB : List Nat := [12, 1, 16, 10, 2, 1, 3, 157, 94, 157, 157]
theorem hd_cells : ∀ y ∈ List.zip hdB lnB, 0 ≤ cellB y.1.2 ∧ cellB y.1.2 + y.2 ≤ 157 := by decide +kernel
theorem spB_zip {C : Cst} (hC : CstOk C) : (spB C).map (fun x => (x.1, x.2.length)) = List.zip hdB lnB := by
  unfold spB lnB
  rw [← hC.b5L, List.zip_map_right]
  rfl
theorem spB_cells {C : Cst} (hC : CstOk C) : ∀ x ∈ spB C, 0 ≤ cellB x.1.2 ∧ cellB x.1.2 + (x.2.length : Int) ≤ 157 := by
  intro x hx
  have h := hd_cells (x.1, x.2.length) (by rw [← spB_zip hC]; exact List.mem_map_of_mem hx)
  exact h
theorem secB_in (n : Int) (h0 : 0 ≤ n) (h1 : n < 157) : 0 ≤ secB n ∧ secB n < 256 := by
  unfold secB
  split <;> omega
theorem bfind_all (ns : List Nat) (hn : ns.length ≤ 1000) (hs : Hid (∀ n ∈ ns, n < 65536)) (p : Nat) (m : Int) (w : World) (hm : Hid (Mx m w)) : Calls Tryz.prog 92 #[.string ⟨(listT ns).toArray⟩, .int .i32 p] w fun e w' => e = .returned (.int .i64 (fdW ns p)) ∧ Below w.heap.size w w' := by
  by_cases hp : p < 65536
  · exact bfind_in ns hn hs p hp m w hm
  · refine (bfind_out _ p (.inr (by omega)) w).mono ?_
    rintro e w' ⟨he, rfl⟩
    refine ⟨?_, Below.refl _ _⟩
    have h0 : ns.findIdx? (· == p) = none := by
      rw [List.findIdx?_eq_none_iff]
      intro x hx
      have := hs.out x hx
      simp
      omega
    unfold fdW
    rw [h0]
    exact he
set_option maxHeartbeats 4000000 in
set_option maxRecDepth 100000 in
theorem bbytes_any (C : Cst) (hC : Hid (CstOk C)) (p : Nat) (r : List Nat) (hr : r.length ≤ 1) (hp : (p : Int) ≤ 1114111) (n cap ub : Nat) (hn : n = r.length + 1) (w : World) (hub : Hid (ub < w.heap.size)) (c0 : Hid (w.cell? ⟨ub, 0, none⟩ = some (.int .i32 p))) (c1 : Hid (∀ q, r.head? = some q → w.cell? ⟨ub, 1, none⟩ = some (.int .i32 (q : Nat)))) (m : Int) (hm : Hid (Mx m w)) :
    Calls Tryz.prog 40 #[.slice (some ⟨ub, 0, none⟩) n cap] w fun e w' => e = .returned (.tuple #[.string ⟨(bTxt (bytB C p r)).toArray⟩, .int .i64 (bCnt (bytB C p r))]) ∧ Below w.heap.size w w' := by
  have n1 : (1 : Int) ≤ n := by omega
  have n2 : (n : Int) ≤ 2 := by omega
  have n0 : ((n : Int) == 0) = false := by simp; omega
  have n0' : ((n : Int) = 0) = False := by simp; omega
  have HN := Lib.hid hn
  clear hn
  have TW := Lib.hid (fun w => btwos_any w)
  have HS : Hid (bytB C p r = match twG p r twB with | some s => some (34816 + s, 2) | none => (spanG p (spB C)).map (fun c => (c, 1))) := Lib.hid rfl
  go_enter Tryz.func40, Tryz.ntmps40
  go_upto_region 4 with (go_at_call 90; (with_reducible refine (TW.out _).mono ?_); rintro e w2 ⟨rfl, hb2⟩; have K := Lib.hid hb2; clear hb2)
  rw [twBA_rows]
  have HLN : Hid (twB.length = 4) := Lib.hid rfl
  have HOK := Lib.hid twB_ok
  have HIX : Hid (∀ (k : Nat) (hk : k < twB.length) w, (Instr.index 128 (.agg (twB.map twR).flatten.toArray) (.int .i64 k)).run Tryz.prog w = .ok (.agg (twR twB[k]).toArray) w) := Lib.hid (fun k hk w => by
    have h := run_index_rows (P := Tryz.prog) (T := 128) (e := 127) (n := 4) (sz := 3) (L := twB.map twR) (fun r hr => by obtain ⟨x, -, rfl⟩ := List.mem_map.1 hr; rfl) (by rw [List.length_map]; exact HLN.out) Tryz.underlying128 (fun w => by kernel_rfl) (fun w => by kernel_rfl) k (by rw [List.length_map]; exact hk) w
    rw [List.getElem_map] at h
    exact h)
  generalize (Value.agg (twB.map twR).flatten.toArray) = arr at *
  generalize twB = S at *
  clear TW
  go_loopw [13] (fun i wr => ∃ k : Nat, k ≤ 4 ∧ i = .int .i64 k ∧ Hid (twG p r S = twG p r (S.drop k)) ∧ Hid (Below w.heap.size w wr)) (fun i _ => 4 - (intOf i).toNat)
  case atStart => exact ⟨0, by omega, rfl, Lib.hid (by rw [List.drop_zero]), K⟩
  case round =>
    clear K
    obtain ⟨k, hk, rfl, HD0, K⟩ := hrel
    by_cases hlt : k < 4
    · have g3 : (k : Int) < 4 := by omega
      have hkl : k < S.length := by rw [HLN.out]; exact hlt
      have hix := HIX.out k hkl
      have HD := Lib.hid (twG_drop p r S k hkl)
      obtain ⟨o1, o2, o3, -, -⟩ := HOK.out S[k] (List.getElem_mem hkl)
      generalize S[k] = x at *
      clear hkl
      unfold twR at hix
      obtain ⟨x1, x2, x3⟩ := x
      simp only at hix HD o1
      have o1i : (x1 : Int) < 256 := by omega
      clear o1 o2 o3
      go_upto_region 6 with (fail)
      have P := Lib.hid (at_a0 wr #[.int .i64 x1, .int .i32 x2, .int .i32 x3] 127)
      have hB := (Below.refl wr.heap.size wr).alloc (Nat.le_refl _) (.cells #[.int .i64 x1, .int .i32 x2, .int .i32 x3] 127)
      replace K := Lib.hid (nextB K.out hB)
      clear hB hix
      generalize wr.alloc (.cells #[.int .i64 x1, .int .i32 x2, .int .i32 x3] 127) = w2 at *
      generalize wr.heap.size = lb at *
      obtain ⟨y0, y1, y2⟩ := cells3 (P.out)
      have u0 : w2.cell? ⟨ub, 0, none⟩ = some (.int .i32 p) := (K.out.cell (p := ⟨ub, 0, none⟩) hub.out).trans c0.out
      rcases r with _ | ⟨q, r⟩
      · obtain rfl : n = 1 := HN.out
        have HT : Hid (twG p [] S = twG p [] (S.drop (k + 1))) := Lib.hid (HD0.out.trans (by rw [HD.out, if_neg (fun e => by cases e.2)]))
        clear HD0 HD
        go_quiet (fail)
        have K2 := Lib.hid (show Below w.heap.size w (w2.drewN nq) from belowN K.out nq)
        go_wp2
        exact ⟨⟨k + 1, by omega, by simp, HT, K2⟩, by simp [intOf]; omega⟩
      · have hr0 : r = [] := by
          rcases r with _ | ⟨z, r'⟩
          · rfl
          · simp at hr
        subst hr0
        obtain rfl : n = 2 := HN.out
        have u1 : w2.cell? ⟨ub, 1, none⟩ = some (.int .i32 q) := (K.out.cell (p := ⟨ub, 1, none⟩) hub.out).trans (c1.out q rfl)
        by_cases h1 : p = x2
        · subst h1
          by_cases h2 : q = x3
          · subst h2
            have HT : Hid (bytB C p [q] = some (34816 + x1, 2)) := Lib.hid (by rw [HS.out, HD0.out, HD.out, if_pos ⟨rfl, rfl⟩])
            clear HS HD0 HD
            have CB : Hid (∀ w, Calls Tryz.prog 91 #[.int .i64 136, .int .i64 x1] w fun e w' => e = .returned (.string ⟨(bigL (34816 + x1) 2).toArray⟩) ∧ Below w.heap.size w w') := Lib.hid (fun w => by
              have h := bcode_any 136 x1 (by omega) (by omega) (by omega) (by omega) w
              rw [show (136 * 256 + (x1 : Int)).toNat = 34816 + x1 by omega] at h
              exact h)
            go_quiet (fail)
            have K2 := Lib.hid (show Below w.heap.size w (w2.drewN nq) from belowN K.out nq)
            have z0 : (w2.drewN nq).cell? ⟨lb, 0, none⟩ = some (.int .i64 x1) := y0
            generalize w2.drewN nq = w3 at *
            go_wp2_with (go_at_call 91; (with_reducible refine (CB.out _).mono ?_); rintro e w4 ⟨rfl, hb4⟩; replace K2 := Lib.hid (nextB K2.out hb4); clear hb4)
            go_ret2
            rw [HT.out]
            exact ⟨rfl, K2.out⟩
          · have HT : Hid (twG p [q] S = twG p [q] (S.drop (k + 1))) := Lib.hid (HD0.out.trans (by rw [HD.out, if_neg (fun e => h2 (by simpa using e.2))]))
            have d1 : ((q : Int) == (x3 : Int)) = false := by simp; omega
            have d2 : ((q : Int) = (x3 : Int)) = False := by simp; omega
            have d3 : decide ((q : Int) = (x3 : Int)) = false := by simp; omega
            clear HD0 HD h2
            go_quiet (fail)
            have K2 := Lib.hid (show Below w.heap.size w (w2.drewN nq) from belowN K.out nq)
            go_wp2
            exact ⟨⟨k + 1, by omega, by simp, HT, K2⟩, by simp [intOf]; omega⟩
        · have HT : Hid (twG p [q] S = twG p [q] (S.drop (k + 1))) := Lib.hid (HD0.out.trans (by rw [HD.out, if_neg (fun e => h1 e.1)]))
          have d1 : ((p : Int) == (x2 : Int)) = false := by simp; omega
          have d2 : ((p : Int) = (x2 : Int)) = False := by simp; omega
          have d3 : decide ((p : Int) = (x2 : Int)) = false := by simp; omega
          clear HD0 HD h1
          go_quiet (fail)
          have K2 := Lib.hid (show Below w.heap.size w (w2.drewN nq) from belowN K.out nq)
          go_wp2
          exact ⟨⟨k + 1, by omega, by simp, HT, K2⟩, by simp [intOf]; omega⟩
    · have g3 : ¬ (k : Int) < 4 := by omega
      have hd0 : S.drop k = [] := List.drop_eq_nil_of_le (by rw [HLN.out]; omega)
      have HO : Hid (bytB C p r = (spanG p (spB C)).map (fun c => (c, 1))) := Lib.hid (by rw [HS.out, HD0.out, hd0]; rfl)
      clear HS hd0 HD0 HIX HOK HLN
      have SP := Lib.hid (fun w => bspans_any C hC w)
      go_upto_region 10 with (go_at_call 63; (with_reducible refine (SP.out _).mono ?_); rintro e w1 ⟨rfl, hb1⟩; replace K := Lib.hid (nextB K.out hb1); clear hb1)
      have HLN := Lib.hid (spB_len hC.out)
      have HOK := Lib.hid (spB_ok hC.out)
      have HCE := Lib.hid (spB_cells hC.out)
      rw [spBA_rows]
      have HIX : Hid (∀ (k : Nat) (hk : k < (spB C).length) w, (Instr.index 103 (.agg ((spB C).map rwB).flatten.toArray) (.int .i64 k)).run Tryz.prog w = .ok (.agg (rwB (spB C)[k]).toArray) w) := Lib.hid (fun k hk w => by
        have h := run_index_rows (P := Tryz.prog) (T := 103) (e := 102) (n := 11) (sz := 3) (L := (spB C).map rwB) (fun r hr => by obtain ⟨x, -, rfl⟩ := List.mem_map.1 hr; rfl) (by rw [List.length_map]; exact HLN.out) Tryz.underlying103 (fun w => by kernel_rfl) (fun w => by kernel_rfl) k (by rw [List.length_map]; exact hk) w
        rw [List.getElem_map] at h
        exact h)
      generalize (Value.agg ((spB C).map rwB).flatten.toArray) = arr at *
      generalize spB C = S at *
      clear SP
      clear g3 hlt hk
      go_loopw [42] (fun i wr => ∃ k : Nat, k ≤ 11 ∧ i = .int .i64 k ∧ Hid (spanG p S = spanG p (S.drop k)) ∧ Hid (Below w.heap.size w wr)) (fun i _ => 11 - (intOf i).toNat)
      case atStart => exact ⟨0, by omega, rfl, Lib.hid (by rw [List.drop_zero]), K⟩
      case round =>
        clear K
        obtain ⟨k, hk, rfl, HD0, K⟩ := hrel
        by_cases hlt : k < 11
        · have g3 : (k : Int) < 11 := by omega
          have hkl : k < S.length := by rw [HLN.out]; exact hlt
          have hix := HIX.out k hkl
          have HD := Lib.hid (spanG_drop p S k hkl)
          obtain ⟨o1, o2, o3, o4⟩ := HOK.out S[k] (List.getElem_mem hkl)
          obtain ⟨q1, q2⟩ := HCE.out S[k] (List.getElem_mem hkl)
          generalize S[k] = x at *
          clear hkl
          have FD := Lib.hid (fun w h => bfind_all x.2 o3 (Lib.hid o4) p m w h)
          have CL := Lib.hid (fun w => bcell_any x.1.2 (by omega) (by omega) w)
          unfold rwB hdR at hix
          have HF : Hid ((fdW x.2 p = -1 ∧ spanG p (S.drop k) = spanG p (S.drop (k + 1))) ∨ ∃ i : Nat, fdW x.2 p = i ∧ cellB x.1.2 + (i : Int) < 157 ∧ spanG p (S.drop k) = some (x.1.1 * 256 + (secB (cellB x.1.2 + i)).toNat)) := Lib.hid (by
            have HDo := HD.out
            unfold fdW
            rcases hfi : x.2.findIdx? (· == p) with _ | i
            · rw [hfi] at HDo
              exact .inl ⟨rfl, HDo⟩
            · rw [hfi] at HDo
              have h3 := (List.findIdx?_eq_some_iff_getElem.1 hfi).1
              exact .inr ⟨i, rfl, by omega, HDo⟩)
          clear HD
          generalize listT x.2 = tl at *
          generalize fdW x.2 p = z at *
          generalize x.1.1 = sl at *
          generalize cellB x.1.2 = sc at *
          generalize x.1.2 = ss at *
          clear o3 o4 q2
          have o1' : (sl : Int) < 256 := by omega
          go_upto_region 12 with (fail)
          have P := Lib.hid (at_a0 wr #[.int .i64 sl, .int .i64 ss, .string ⟨tl.toArray⟩] 102)
          have hB := (Below.refl wr.heap.size wr).alloc (Nat.le_refl _) (.cells #[.int .i64 sl, .int .i64 ss, .string ⟨tl.toArray⟩] 102)
          replace K := Lib.hid (nextB K.out hB)
          clear hB hix
          generalize wr.alloc (.cells #[.int .i64 sl, .int .i64 ss, .string ⟨tl.toArray⟩] 102) = w2 at *
          generalize wr.heap.size = lb at *
          obtain ⟨y0, y1, y2⟩ := cells3 (P.out)
          have u0 : w2.cell? ⟨ub, 0, none⟩ = some (.int .i32 p) := (K.out.cell (p := ⟨ub, 0, none⟩) hub.out).trans c0.out
          have hlb : lb < w2.heap.size := (Array.getElem?_eq_some_iff.1 P.out).1
          have hub2 : ub < w2.heap.size := Nat.lt_of_lt_of_le hub.out K.out.size
          have HK : Hid (∀ w', Below w2.heap.size w2 w' → (w'.cell? ⟨lb, 0, none⟩ = some (.int .i64 sl) ∧ w'.cell? ⟨lb, 1, none⟩ = some (.int .i64 ss) ∧ w'.cell? ⟨lb, 2, none⟩ = some (.string ⟨tl.toArray⟩)) ∧ w'.cell? ⟨ub, 0, none⟩ = some (.int .i32 p)) := Lib.hid (fun w' hb => ⟨⟨(hb.cell (p := ⟨lb, 0, none⟩) hlb).trans y0, (hb.cell (p := ⟨lb, 1, none⟩) hlb).trans y1, (hb.cell (p := ⟨lb, 2, none⟩) hlb).trans y2⟩, (hb.cell (p := ⟨ub, 0, none⟩) hub2).trans u0⟩)
          have cc : (w2.cell? ⟨lb, 0, none⟩ = some (.int .i64 sl) ∧ w2.cell? ⟨lb, 1, none⟩ = some (.int .i64 ss) ∧ w2.cell? ⟨lb, 2, none⟩ = some (.string ⟨tl.toArray⟩)) ∧ w2.cell? ⟨ub, 0, none⟩ = some (.int .i32 p) := ⟨⟨y0, y1, y2⟩, u0⟩
          have HM2 := Lib.hid (hm.out.below K.out.drew)
          have n3 : (0 : Int) < n := by omega
          have n4 : 0 < n := by omega
          have n5 : decide ((0 : Int) < n) = true := decide_eq_true n3
          clear y0 y1 y2 u0
          go_region_held3 (fun w' => (w'.cell? ⟨lb, 0, none⟩ = some (.int .i64 sl) ∧ w'.cell? ⟨lb, 1, none⟩ = some (.int .i64 ss) ∧ w'.cell? ⟨lb, 2, none⟩ = some (.string ⟨tl.toArray⟩)) ∧ w'.cell? ⟨ub, 0, none⟩ = some (.int .i32 p)) (first | exact cc | exact x1 | fail)
            (first | (go_at_call 92; (with_reducible refine (FD.out _ HM2).mono ?_); rintro e w3 ⟨rfl, hb1⟩; have k1 := Lib.hid (drewBu hb1); have x1 := HK.out _ k1.out; clear hb1))
          replace K := Lib.hid (nextB K.out k1.out)
          clear k1 HK HM2 cc P FD
          rcases HF.out with ⟨hz, hsp⟩ | ⟨i, hz, hi9, hsp⟩
          · have z1 : ¬ (0 : Int) ≤ z := by omega
            have z2 : decide ((0 : Int) ≤ z) = false := by simp; omega
            have HT : Hid (spanG p S = spanG p (S.drop (k + 1))) := Lib.hid (HD0.out.trans hsp)
            clear hsp HD0 HF
            go_wp2
            exact ⟨⟨k + 1, by omega, by simp, HT, K⟩, by simp [intOf]; omega⟩
          · subst hz
            have HT : Hid (bytB C p r = some (sl * 256 + (secB (sc + i)).toNat, 1)) := Lib.hid (by rw [HO.out, HD0.out, hsp]; rfl)
            have SE := Lib.hid (fun w => bsecond_any (sc + i) (by omega) (by omega) w)
            obtain ⟨s0, s9⟩ := secB_in (sc + i) (by omega) hi9
            have HE : Hid (((sl : Int) * 256 + secB (sc + i)).toNat = sl * 256 + (secB (sc + i)).toNat) := Lib.hid (by omega)
            have CB := Lib.hid (fun w => bcode_any sl (secB (sc + i)) (by omega) (by omega) s0 s9 w)
            rw [HE.out] at CB
            have i9 : (i : Int) ≤ 1000 := by omega
            have s9' : sc < 157 := by omega
            have wsi : IntKind.i64.wrap (sc + (i : Int)) = sc + (i : Int) := IntWalk.i64_in _ (by omega)
            clear hsp HD0 HF HE HO
            generalize secB (sc + i) = sv at *
            go_upto_region 14 with (fail)
            have cc : (w3.cell? ⟨lb, 0, none⟩ = some (.int .i64 sl) ∧ w3.cell? ⟨lb, 1, none⟩ = some (.int .i64 ss) ∧ w3.cell? ⟨lb, 2, none⟩ = some (.string ⟨tl.toArray⟩)) ∧ w3.cell? ⟨ub, 0, none⟩ = some (.int .i32 p) := x1
            have l3 : lb < w3.heap.size := by
              rcases Nat.lt_or_ge lb w3.heap.size with h | h
              · exact h
              · have h1 := x1.1.1
                unfold World.cell? at h1
                simp [Array.getElem?_eq_none h] at h1
            have u3 : ub < w3.heap.size := Nat.lt_of_lt_of_le hub.out K.out.size
            have HK : Hid (∀ w', Below w3.heap.size w3 w' → (w'.cell? ⟨lb, 0, none⟩ = some (.int .i64 sl) ∧ w'.cell? ⟨lb, 1, none⟩ = some (.int .i64 ss) ∧ w'.cell? ⟨lb, 2, none⟩ = some (.string ⟨tl.toArray⟩)) ∧ w'.cell? ⟨ub, 0, none⟩ = some (.int .i32 p)) := Lib.hid (fun w' hb => ⟨⟨(hb.cell (p := ⟨lb, 0, none⟩) l3).trans x1.1.1, (hb.cell (p := ⟨lb, 1, none⟩) l3).trans x1.1.2.1, (hb.cell (p := ⟨lb, 2, none⟩) l3).trans x1.1.2.2⟩, (hb.cell (p := ⟨ub, 0, none⟩) u3).trans x1.2⟩)
            clear x1
            go_region_held3 (fun w' => (w'.cell? ⟨lb, 0, none⟩ = some (.int .i64 sl) ∧ w'.cell? ⟨lb, 1, none⟩ = some (.int .i64 ss) ∧ w'.cell? ⟨lb, 2, none⟩ = some (.string ⟨tl.toArray⟩)) ∧ w'.cell? ⟨ub, 0, none⟩ = some (.int .i32 p)) (first | exact cc | exact x1 | fail)
              (first | (go_at_call 66; (with_reducible refine (CL.out _).mono ?_); rintro e w4 ⟨rfl, rfl⟩) | (go_at_call 65; (with_reducible refine (SE.out _).mono ?_); rintro e w4 ⟨rfl, rfl⟩) | (go_at_call 91; (with_reducible refine (CB.out _).mono ?_); rintro e w4 ⟨rfl, hb4⟩; have k1 := Lib.hid (drewBu hb4); have x1 := HK.out _ k1.out; clear hb4))
            go_wp2
            go_ret2
            rw [HT.out]
            exact ⟨rfl, nextB K.out k1.out⟩
        · have g3 : ¬ (k : Int) < 11 := by omega
          have hd0 : S.drop k = [] := List.drop_eq_nil_of_le (by rw [HLN.out]; omega)
          have HT : Hid (bytB C p r = none) := Lib.hid (by rw [HO.out, HD0.out, hd0]; rfl)
          clear HO HD0 hd0
          go_wp2
          go_ret2
          rw [HT.out]
          exact ⟨rfl, K.out⟩
end Go.Proofs.YtffhmjlojmoomaaGreatDoor

namespace Go.Proofs.YtffhmjlojmoomaaGreatDoor
open Go.RowKit
set_option linter.unusedVariables false
set_option linter.unusedSimpArgs false

theorem twG_mem (p : Nat) (r : List Nat) (s : Nat) : ∀ L : List (Nat × Nat × Nat), twG p r L = some s → ∃ x ∈ L, p = x.2.1 ∧ r.head? = some x.2.2 ∧ s = x.1
  | [], h => by cases h
  | x :: L, h => by
    unfold twG at h
    split at h
    · rename_i hx
      exact ⟨x, by simp, hx.1, hx.2, (Option.some.inj h).symm⟩
    · obtain ⟨y, hy, h1⟩ := twG_mem p r s L h
      exact ⟨y, by simp [hy], h1⟩
theorem spanG_at (p c : Nat) : ∀ L : List ((Nat × Nat) × List Nat), spanG p L = some c → ∃ (j : Nat) (hj : j < L.length) (k : Nat), L[j].2.findIdx? (· == p) = some k ∧ c = L[j].1.1 * 256 + (secB (cellB L[j].1.2 + k)).toNat
  | [], h => by cases h
  | x :: L, h => by
    unfold spanG at h
    rcases hf : x.2.findIdx? (· == p) with _ | k
    · rw [hf] at h
      obtain ⟨j, hj, k, h1, h2⟩ := spanG_at p c L h
      exact ⟨j + 1, by simpa using hj, k, by simpa using h1, by simpa using h2⟩
    · rw [hf] at h
      exact ⟨0, by simp, k, by simpa using hf, (Option.some.inj h).symm⟩
theorem oneF_at (lead c : Int) (p : Nat) : ∀ (L : List ((Nat × Nat) × List Nat)) (j : Nat) (hj : j < L.length), (∀ (i : Nat) (hi : i < L.length), i < j → (L[i].1.1 : Int) = lead → atW L[i].2 (c - cellB L[i].1.2) = none) → (L[j].1.1 : Int) = lead → atW L[j].2 (c - cellB L[j].1.2) = some p → oneF lead c L = some p
  | x :: L, 0, _, _, h1, h2 => by
    simp only [List.getElem_cons_zero] at h1 h2
    unfold oneF
    rw [if_pos h1, h2]
  | x :: L, j + 1, hj, h0, h1, h2 => by
    simp only [List.getElem_cons_succ] at h1 h2
    have ih := oneF_at lead c p L j (by simpa using hj) (fun i hi hij hl => by
      have := h0 (i + 1) (by simpa using hi) (by omega)
      simp only [List.getElem_cons_succ] at this
      exact this hl) h1 h2
    unfold oneF
    by_cases hx : (x.1.1 : Int) = lead
    · have := h0 0 (by simp) (by omega)
      simp only [List.getElem_cons_zero] at this
      rw [if_pos hx, this hx]
      exact ih
    · rw [if_neg hx]
      exact ih
theorem oneF_none (lead c : Int) : ∀ L : List ((Nat × Nat) × List Nat), (∀ x ∈ L, (x.1.1 : Int) = lead → atW x.2 (c - cellB x.1.2) = none) → oneF lead c L = none
  | [], _ => rfl
  | x :: L, h => by
    have ih := oneF_none lead c L (fun y hy => h y (by simp [hy]))
    unfold oneF
    by_cases hx : (x.1.1 : Int) = lead
    · rw [if_pos hx, h x (by simp) hx]
      exact ih
    · rw [if_neg hx]
      exact ih
theorem atW_out {ns : List Nat} {k : Int} (h : k < 0 ∨ (ns.length : Int) ≤ k) : atW ns k = none := by
  unfold atW
  split
  · rfl
  · rw [List.getElem?_eq_none_iff]
    omega
theorem cellB_sec (n : Int) (h0 : 0 ≤ n) (h1 : n < 157) : cellB (secB n) = n := by
  unfold secB
  split
  · unfold cellB
    rw [if_pos (by omega)]; omega
  · unfold cellB
    rw [if_neg (by omega), if_pos (by omega)]; omega
theorem tw_apart : ∀ y ∈ List.zip hdB lnB, y.1.1 = 136 → ∀ x ∈ twB, cellB x.1 - cellB y.1.2 < 0 ∨ (y.2 : Int) ≤ cellB x.1 - cellB y.1.2 := by decide +kernel
theorem tw_self : ∀ x ∈ twB, twF x.1 twB = some [x.2.1, x.2.2] ∧ 0 ≤ cellB x.1 ∧ x.1 < 256 := by decide +kernel
theorem hd_order : ∀ j : Fin 11, ∀ i : Fin 11, i.val < j.val → ((List.zip hdB lnB).getD i.val ((0, 0), 0)).1.1 = ((List.zip hdB lnB).getD j.val ((0, 0), 0)).1.1 → cellB ((List.zip hdB lnB).getD i.val ((0, 0), 0)).1.2 + (((List.zip hdB lnB).getD i.val ((0, 0), 0)).2 : Int) ≤ cellB ((List.zip hdB lnB).getD j.val ((0, 0), 0)).1.2 := by decide +kernel
theorem hd_lead : ∀ h ∈ hdB, 136 ≤ h.1 ∧ h.1 < 256 := by decide
theorem spB_getD {C : Cst} (hC : CstOk C) (i : Nat) (hi : i < (spB C).length) : (List.zip hdB lnB).getD i ((0, 0), 0) = ((spB C)[i].1, (spB C)[i].2.length) := by
  rw [← spB_zip hC, List.getD_eq_getElem?_getD, List.getElem?_map, List.getElem?_eq_getElem hi]
  rfl
theorem bytB_sign {C : Cst} (hC : CstOk C) (p : Nat) (r : List Nat) (c n : Nat) (h : bytB C p r = some (c, n)) : c < 65536 ∧ 128 ≤ c / 256 ∧ ((n = 1 ∧ sgB C (c / 256) (c % 256) = some [p]) ∨ (n = 2 ∧ ∃ q, r.head? = some q ∧ sgB C (c / 256) (c % 256) = some [p, q])) := by
  unfold bytB at h
  rcases ht : twG p r twB with _ | s
  · rw [ht] at h
    simp only at h
    obtain ⟨d, hd, he⟩ := Option.map_eq_some_iff.1 h
    injection he with e1 e2
    subst e1 e2
    obtain ⟨j, hj, k, hk, rfl⟩ := spanG_at p d (spB C) hd
    have hmem := List.getElem_mem hj
    obtain ⟨q1, q2⟩ := spB_cells hC _ hmem
    obtain ⟨h3, h4, -⟩ := List.findIdx?_eq_some_iff_getElem.1 hk
    have hle := hd_lead (spB C)[j].1 (List.of_mem_zip (show ((spB C)[j].1, (spB C)[j].2) ∈ List.zip hdB C.b5 from hmem)).1
    obtain ⟨s0, s9⟩ := secB_in (cellB (spB C)[j].1.2 + k) (by omega) (by omega)
    have hcs := cellB_sec (cellB (spB C)[j].1.2 + k) (by omega) (by omega)
    generalize hn : secB (cellB (spB C)[j].1.2 + k) = sv at *
    have c1 : ((spB C)[j].1.1 * 256 + sv.toNat) / 256 = (spB C)[j].1.1 := by omega
    have c2 : ((((spB C)[j].1.1 * 256 + sv.toNat) % 256 : Nat) : Int) = sv := by omega
    refine ⟨by omega, by omega, .inl ⟨rfl, ?_⟩⟩
    unfold sgB oneB
    rw [c1, c2, hcs, if_neg (by omega), oneF_at _ _ p (spB C) j hj ?_ rfl ?_]
    · intro i hi hij hl
      refine atW_out (.inr ?_)
      have h11 := spB_len hC
      have ho := hd_order ⟨j, by omega⟩ ⟨i, by omega⟩ hij
      simp only [spB_getD hC i hi, spB_getD hC j hj] at ho
      have := ho (by omega)
      omega
    · unfold atW
      rw [if_neg (by omega), show (cellB (spB C)[j].1.2 + (k : Int) - cellB (spB C)[j].1.2).toNat = k by omega, List.getElem?_eq_getElem h3]
      simpa using h4
  · rw [ht] at h
    simp only at h
    injection h with h
    injection h with e1 e2
    subst e1 e2
    obtain ⟨x, hx, hp, hr, rfl⟩ := twG_mem p r s twB ht
    obtain ⟨t1, t2, t3⟩ := tw_self x hx
    have c1 : (34816 + x.1) / 256 = 136 := by omega
    have c2 : (34816 + x.1) % 256 = x.1 := by omega
    refine ⟨by omega, by omega, .inr ⟨rfl, x.2.2, hr, ?_⟩⟩
    unfold sgB oneB
    rw [c1, c2, if_neg (by omega), oneF_none]
    · simp only [if_true]
      rw [t1, hp]
    · intro y hy hl
      refine atW_out ?_
      have := tw_apart (y.1, y.2.length) (by rw [← spB_zip hC]; exact List.mem_map_of_mem hy) (by show y.1.1 = 136; omega) x hx
      exact this
end Go.Proofs.YtffhmjlojmoomaaGreatDoor
