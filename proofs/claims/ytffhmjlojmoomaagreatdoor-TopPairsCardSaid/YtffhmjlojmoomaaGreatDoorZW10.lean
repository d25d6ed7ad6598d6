/- Layer 7 (wansung): the spans, and the other signs of the rows, walked. | Layer 7 (wansung): the codes of the other signs, the rows, walked. | Layer 7 (wansung): how many members there are. -/
import Derived.Test.YtffhmjlojmoomaaGreatDoorZW6

namespace Go.Proofs.YtffhmjlojmoomaaGreatDoor
open Go.RowKit
set_option linter.unusedVariables false
set_option linter.unusedSimpArgs false

/-- codes whose signs follow one another: the first code, its sign, how many -/
def spW : List (Nat × Nat × Nat) := [(41889, 65281, 59), (41948, 65510, 1), (41949, 65341, 33), (41982, 65507, 1), (42145, 12593, 94), (42401, 8560, 10), (42416, 8544, 10), (42433, 913, 17), (42450, 931, 7), (42465, 945, 17), (42482, 963, 7), (43681, 12353, 83), (43937, 12449, 86), (44193, 1040, 6), (44199, 1025, 1), (44200, 1046, 26), (44241, 1072, 6), (44247, 1105, 1), (44248, 1078, 26)]
def spR (x : Nat × Nat × Nat) : List Value := [.int .i64 x.1, .int .i32 x.2.1, .int .i64 x.2.2]
def spF (code : Nat) : List (Nat × Nat × Nat) → Option Nat
  | [] => none
  | x :: L => if x.1 ≤ code ∧ code < x.1 + x.2.2 then some (x.2.1 + (code - x.1)) else spF code L
def spG (p : Nat) : List (Nat × Nat × Nat) → Option Nat
  | [] => none
  | x :: L => if x.2.1 ≤ p ∧ p < x.2.1 + x.2.2 then some (x.1 + (p - x.2.1)) else spG p L
theorem spW_ok : spW.length = 19 ∧ ∀ x ∈ spW, x.1 ≤ 65535 ∧ x.2.1 ≤ 65535 ∧ x.2.2 ≤ 100 := by decide
theorem RecsAt.cell {w : World} {a : Option Addr} {n size : Nat} {L : List (List Value)} (h : RecsAt w a n size L) (hn : 1 ≤ n) : ∃ b off, a = some ⟨b, off, none⟩ ∧ b < w.heap.size ∧ ∀ (k : Nat) (hk : k < L.length) (j : Nat), j < size → w.cell? ⟨b, off + (k * size + j), none⟩ = (L[k])[j]? := by
  rcases h.2.2 with h0 | ⟨b, off, ha, hb, hc⟩
  · have := h.1
    omega
  · exact ⟨b, off, ha, hb, hc⟩
set_option maxHeartbeats 4000000 in
set_option maxRecDepth 100000 in
theorem spans_any (w : World) : Calls Tryz.prog 106 #[] w fun e w' => ∃ a, e = .returned (.slice a 19 19) ∧ RecsAt w' a 19 3 (spW.map spR) ∧ Below w.heap.size w w' := by
  go_enter Tryz.func106, Tryz.ntmps106
  go_wp2
  go_ret
  refine ⟨_, rfl, recsAt_new w (spW.map spR) 3 (fun r hr => by obtain ⟨x, -, rfl⟩ := List.mem_map.1 hr; rfl) _ _ rfl 19 rfl, (Below.refl w.heap.size w).alloc (Nat.le_refl _) _⟩
def othW (C : Cst) (code : Nat) : Option Nat := if code % 256 < 161 ∨ 254 < code % 256 then none else if lisW C ((code / 256 : Nat) : Int) = [] then spF code spW else atW (lisW C ((code / 256 : Nat) : Int)) ((code : Int) - ((code / 256 : Nat) * 256 + 161))
theorem spF_drop (code : Nat) (L : List (Nat × Nat × Nat)) (k : Nat) (hk : k < L.length) : spF code (L.drop k) = if L[k].1 ≤ code ∧ code < L[k].1 + L[k].2.2 then some (L[k].2.1 + (code - L[k].1)) else spF code (L.drop (k + 1)) := by
  rw [List.drop_eq_getElem_cons hk]
  rfl
theorem spG_drop (p : Nat) (L : List (Nat × Nat × Nat)) (k : Nat) (hk : k < L.length) : spG p (L.drop k) = if L[k].2.1 ≤ p ∧ p < L[k].2.1 + L[k].2.2 then some (L[k].1 + (p - L[k].2.1)) else spG p (L.drop (k + 1)) := by
  rw [List.drop_eq_getElem_cons hk]
  rfl
theorem i64_and255 (a : Nat) (ha : a < 65536) : bits .and .i64 (a : Int) 255 = ((a % 256 : Nat) : Int) := by
  have h := i64_and_nat a 255 (by omega) (by decide)
  rw [show (255 : Nat) = 2 ^ 8 - 1 by rfl, Nat.and_two_pow_sub_one_eq_mod] at h
  exact h
theorem lisW_len {C : Cst} (hC : CstOk C) (x : Int) : (lisW C x).length ≤ 1000 ∧ ∀ n ∈ lisW C x, n < 65536 := by
  obtain ⟨h1, h2, h3, h4⟩ := hC.wL
  unfold lisW
  split
  · exact ⟨by omega, fun n hn => (h4 n (by simp [hn])).2.1⟩
  split
  · exact ⟨by omega, fun n hn => (h4 n (by simp [hn])).2.1⟩
  split
  · exact ⟨by omega, fun n hn => (h4 n (by simp [hn])).2.1⟩
  · simp
set_option maxHeartbeats 4000000 in
set_option maxRecDepth 100000 in
theorem other_any (C : Cst) (hC : Hid (CstOk C)) (code : Nat) (hc : code < 65536) (w : World) : Calls Tryz.prog 120 #[.int .i64 code] w fun e w' => e = .returned (.tuple #[.int .i32 ((othW C code).getD 0 : Nat), .bool (othW C code).isSome]) ∧ Below w.heap.size w w' := by
  have hand := i64_and255 code hc
  obtain ⟨lo, hlo⟩ : ∃ x, x = code % 256 := ⟨_, rfl⟩
  obtain ⟨hi, hhi⟩ : ∃ x, x = code / 256 := ⟨_, rfl⟩
  have HO : Hid (othW C code = if lo < 161 ∨ 254 < lo then none else if lisW C ((hi : Nat) : Int) = [] then spF code spW else atW (lisW C ((hi : Nat) : Int)) ((code : Int) - ((hi : Nat) * 256 + 161))) := Lib.hid (by unfold othW; rw [hlo, hhi])
  rw [← hlo] at hand
  have hdiv : (code : Int) / 256 = (hi : Int) := by omega
  have hlo9 : (lo : Int) < 256 := by omega
  have hhi9 : (hi : Int) ≤ 255 := by omega
  have hci : (code : Int) < 65536 := by omega
  have HCC : Hid ((code : Int) = hi * 256 + lo) := Lib.hid (by omega)
  clear hlo hhi hc
  go_enter Tryz.func120, Tryz.ntmps120
  by_cases a1 : lo < 161
  · have g1 : (lo : Int) < 161 := by omega
    have HN : Hid (othW C code = none) := Lib.hid (by rw [HO.out, if_pos (.inl a1)])
    clear HO
    go_wp2
    all_goals go_ret2
    all_goals (rw [HN.out]; exact ⟨rfl, Below.refl _ _⟩)
  by_cases a2 : 254 < lo
  · have g1 : ¬ (lo : Int) < 161 := by omega
    have g2 : (254 : Int) < lo := by omega
    have HN : Hid (othW C code = none) := Lib.hid (by rw [HO.out, if_pos (.inr a2)])
    clear HO
    go_wp2
    all_goals go_ret2
    all_goals (rw [HN.out]; exact ⟨rfl, Below.refl _ _⟩)
  have g1 : ¬ (lo : Int) < 161 := by omega
  have g2 : ¬ (254 : Int) < lo := by omega
  have LI := Lib.hid (fun w => listed_any C hC hi (by omega) (by omega) w)
  have HLL := Lib.hid (lisW_len hC.out hi)
  rw [if_neg (by omega)] at HO
  generalize lisW C hi = L at *
  by_cases hL : L = []
  · subst hL
    rw [if_pos rfl] at HO
    replace LI : Hid (∀ w, Calls Tryz.prog 104 #[.int .i64 hi] w fun e w' => e = .returned (.tuple #[.string ⟨#[]⟩, .int .i64 ((hi : Int) * 256 + 161)]) ∧ w = w') := LI
    have SP := Lib.hid (fun w => spans_any w)
    go_upto_region 7 with (first | (go_at_call 104; (with_reducible refine (LI.out _).mono ?_); rintro e wx ⟨rfl, rfl⟩) | (go_at_call 106; (with_reducible refine (SP.out _).mono ?_); rintro e w1 ⟨sa, rfl, hra, hb1⟩; have R := Lib.hid hra; have K := Lib.hid hb1; clear hra hb1))
    have hso := spW_ok
    have HSO := Lib.hid hso.2
    have hln := hso.1
    clear hso LI SP HLL
    generalize spW = S at *
    go_loopw [33] (fun i wr => ∃ k : Nat, k ≤ 19 ∧ i = .int .i64 k ∧ Hid (spF code S = spF code (S.drop k)) ∧ Hid (RecsAt wr sa 19 3 (S.map spR)) ∧ Hid (Below w.heap.size w wr)) (fun i _ => 19 - (intOf i).toNat)
    case atStart => exact ⟨0, by omega, rfl, Lib.hid (by rw [List.drop_zero]), R, K⟩
    case round =>
      clear R K
      obtain ⟨k, hk, rfl, HS, R, K⟩ := hrel
      by_cases hlt : k < 19
      · have g3 : (k : Int) < 19 := by omega
        have hkl : k < S.length := by omega
        obtain ⟨g, off, rfl, hgb, hcell⟩ := R.out.cell (by omega)
        have hc2 := hcell k (by rw [List.length_map]; exact hkl)
        have hso := HSO.out S[k] (List.getElem_mem hkl)
        have HD := Lib.hid (spF_drop code S k hkl)
        have q0 : wr.cell? ⟨g, off + k * 3, none⟩ = some (.int .i64 S[k].1) := by have := hc2 0 (by decide); rw [List.getElem_map] at this; exact this
        have q1 : wr.cell? ⟨g, off + k * 3 + 1, none⟩ = some (.int .i32 S[k].2.1) := by have := hc2 1 (by decide); rw [List.getElem_map, ← Nat.add_assoc] at this; exact this
        have q2 : wr.cell? ⟨g, off + k * 3 + 2, none⟩ = some (.int .i64 S[k].2.2) := by have := hc2 2 (by decide); rw [List.getElem_map, ← Nat.add_assoc] at this; exact this
        obtain ⟨pa, hpa⟩ : ∃ x, x = S[k].1 := ⟨_, rfl⟩
        obtain ⟨pb, hpb⟩ : ∃ x, x = S[k].2.1 := ⟨_, rfl⟩
        obtain ⟨pn, hpn⟩ : ∃ x, x = S[k].2.2 := ⟨_, rfl⟩
        rw [← hpa] at hso q0 HD
        rw [← hpb] at hso q1 HD
        rw [← hpn] at hso q2 HD
        have pa9 : (pa : Int) ≤ 65535 := by omega
        have pb9 : (pb : Int) ≤ 65535 := by omega
        have pn9 : (pn : Int) ≤ 100 := by omega
        clear hpa hpb hpn hso hcell hc2
        go_upto_region 9 with (fail)
        have P := Lib.hid (at_a0 wr #[.int .i64 pa, .int .i32 pb, .int .i64 pn] 146)
        have hB := (Below.refl wr.heap.size wr).alloc (Nat.le_refl _) (.cells #[.int .i64 pa, .int .i32 pb, .int .i64 pn] 146)
        replace R := Lib.hid (R.out.below hB)
        replace K := Lib.hid (nextB K.out hB)
        clear hB q0 q1 q2 hgb
        generalize wr.alloc (.cells #[.int .i64 pa, .int .i32 pb, .int .i64 pn] 146) = w2 at *
        generalize wr.heap.size = lb at *
        obtain ⟨y0, y1, y2⟩ := cells3 (P.out)
        by_cases c1 : pa ≤ code
        · have g4 : (pa : Int) ≤ code := by omega
          by_cases c2 : code < pa + pn
          · have g5 : (code : Int) < pa + pn := by omega
            rw [if_pos ⟨c1, c2⟩] at HD
            have HN : Hid (othW C code = some (pb + (code - pa))) := Lib.hid (by rw [HO.out, HS.out, HD.out])
            have hsub : (code : Int) - pa = ((code - pa : Nat) : Int) := by omega
            obtain ⟨df, hdf⟩ : ∃ df, df = code - pa := ⟨_, rfl⟩
            have hdf9 : (df : Int) ≤ 65535 := by omega
            rw [← hdf] at hsub HN
            clear HO HS HD hdf R
            go_wp2
            go_ret2
            rw [HN.out]
            exact ⟨by simp, K.out⟩
          · have g5 : ¬ (code : Int) < pa + pn := by omega
            rw [if_neg (fun h => c2 h.2)] at HD
            go_wp2
            exact ⟨⟨k + 1, by omega, by simp, Lib.hid (HS.out.trans HD.out), R, K⟩, by simp [intOf]; omega⟩
        · have g4 : ¬ (pa : Int) ≤ code := by omega
          rw [if_neg (fun h => c1 h.1)] at HD
          go_wp2
          exact ⟨⟨k + 1, by omega, by simp, Lib.hid (HS.out.trans HD.out), R, K⟩, by simp [intOf]; omega⟩
      · have g3 : ¬ (k : Int) < 19 := by omega
        have hd0 : S.drop k = [] := List.drop_eq_nil_of_le (by omega)
        have HN : Hid (othW C code = none) := Lib.hid (by rw [HO.out, HS.out, hd0]; rfl)
        clear HO HS R hd0
        go_wp2
        go_ret2
        rw [HN.out]
        exact ⟨rfl, K.out⟩
  · rw [if_neg hL] at HO
    have hne : (listT L) ≠ [] := by
      intro e
      have := listT_len L
      rw [e] at this
      have := List.length_pos_iff.2 hL
      simp at *
      omega
    have AT := Lib.hid (wat_any L HLL.out.1 (Lib.hid HLL.out.2) ((code : Int) - (hi * 256 + 161)) (by have := HCC.out; omega) (by have := HCC.out; omega) w)
    generalize listT L = t at *
    have hE : t.isEmpty = false := by cases t; exact absurd rfl hne; rfl
    have hE2 : (t.isEmpty = true) = False := by rw [hE]; simp
    clear hne hL
    go_wp2_with (first | (go_at_call 104; (with_reducible refine (LI.out _).mono ?_); rintro e wx ⟨rfl, rfl⟩) | (go_at_call 105; (with_reducible refine AT.out.mono ?_); rintro e wx ⟨rfl, rfl⟩))
    go_ret2
    rw [HO.out]
    exact ⟨rfl, Below.refl _ _⟩
end Go.Proofs.YtffhmjlojmoomaaGreatDoor

namespace Go.Proofs.YtffhmjlojmoomaaGreatDoor
open Go.RowKit
set_option linter.unusedVariables false
set_option linter.unusedSimpArgs false

def liW (C : Cst) (p lead : Nat) : Option Nat := if p < 65536 then ((lisW C lead).findIdx? (· == p)).map (lead * 256 + 161 + ·) else none
def ocF (C : Cst) (p : Nat) : Nat → Nat → Option Nat
  | 0, _ => spG p spW
  | n + 1, lead => match liW C p lead with
    | some c => some c
    | none => ocF C p n (lead + 1)
def ocW (C : Cst) (p : Nat) : Option Nat := ocF C p 6 161
theorem find_all (C : Cst) (hC : Hid (CstOk C)) (lead p : Nat) (m : Int) (w : World) (hm : Hid (Mx m w)) : Calls Tryz.prog 124 #[.string ⟨(listT (lisW C lead)).toArray⟩, .int .i32 p] w fun e w' => ∃ z : Int, e = .returned (.int .i64 z) ∧ ((z = -1 ∧ liW C p lead = none) ∨ (∃ k : Nat, z = k ∧ (k : Int) ≤ 1000 ∧ liW C p lead = some (lead * 256 + 161 + k))) ∧ Below w.heap.size w w' := by
  obtain ⟨h1, h2⟩ := lisW_len hC.out lead
  by_cases hp : p < 65536
  · refine (find_in (lisW C lead) h1 (Lib.hid h2) p hp m w hm).mono ?_
    rintro e w' ⟨he, hb⟩
    refine ⟨_, he, ?_, hb⟩
    unfold liW fdW
    rw [if_pos hp]
    rcases hf : (lisW C lead).findIdx? (· == p) with _ | k
    · exact .inl ⟨rfl, rfl⟩
    · have h3 := (List.findIdx?_eq_some_iff_getElem.1 hf).1
      exact .inr ⟨k, rfl, by omega, rfl⟩
  · refine (find_out _ p (.inr (by omega)) w).mono ?_
    rintro e w' ⟨he, rfl⟩
    refine ⟨_, he, .inl ⟨rfl, ?_⟩, Below.refl _ _⟩
    unfold liW
    rw [if_neg hp]
set_option maxHeartbeats 4000000 in
set_option maxRecDepth 100000 in
theorem otherCode_any (C : Cst) (hC : Hid (CstOk C)) (p : Nat) (hp : (p : Int) ≤ 1114111) (m : Int) (w : World) (hm : Hid (Mx m w)) : Calls Tryz.prog 88 #[.int .i32 p] w fun e w' => e = .returned (.tuple #[.int .i64 ((ocW C p).getD 0 : Nat), .bool (ocW C p).isSome]) ∧ Below w.heap.size w w' := by
  have SP := Lib.hid (fun w => spans_any w)
  go_enter Tryz.func88, Tryz.ntmps88
  go_wp2
  go_loopw [4] (fun l wr => ∃ k : Nat, k ≤ 6 ∧ l = .int .i64 ((161 + k : Nat) : Int) ∧ Hid (ocW C p = ocF C p (6 - k) (161 + k)) ∧ Hid (Below w.heap.size w wr)) (fun l _ => 167 - (intOf l).toNat)
  case atStart => exact ⟨0, by omega, rfl, Lib.hid rfl, Lib.hid (Below.refl _ _)⟩
  case round =>
    obtain ⟨k, hk, rfl, HS, K⟩ := hrel
    obtain ⟨ld, hld⟩ : ∃ ld, ld = 161 + k := ⟨_, rfl⟩
    rw [← hld] at HS
    rw [← hld]
    have HLD := Lib.hid hld
    have hl9 : (ld : Int) ≤ 167 := by omega
    by_cases hlt : k < 6
    · have g0 : (ld : Int) ≤ 166 := by omega
      have LI := Lib.hid (fun w => listed_any C hC ld (by omega) (by omega) w)
      have FI := Lib.hid (fun w hm => find_all C hC ld p m w hm)
      have hm2 := Lib.hid (hm.out.below K.out)
      have HS2 : Hid (ocW C p = match liW C p ld with | some c => some c | none => ocF C p (6 - (k + 1)) (ld + 1)) := Lib.hid (by
        rw [HS.out, show 6 - k = (6 - (k + 1)) + 1 by omega]
        rfl)
      clear HS hld
      generalize (⟨(listT (lisW C ld)).toArray⟩ : ByteArray) = tb at *
      go_upto_region 6 with (first | (go_at_call 104; (with_reducible refine (LI.out _).mono ?_); rintro e wx ⟨rfl, rfl⟩) | (go_at_call 124; (with_reducible refine (FI.out _ hm2).mono ?_); rintro e w1 ⟨z, rfl, hz, hb1⟩; replace K := Lib.hid (nextB K.out hb1); have HZ := Lib.hid hz; clear hz hb1))
      rcases HZ.out with ⟨rfl, hn⟩ | ⟨j, rfl, hj, hs⟩
      · have HS3 : Hid (ocW C p = ocF C p (6 - (k + 1)) (ld + 1)) := Lib.hid (by rw [HS2.out, hn])
        clear hn HZ HS2
        go_wp2
        exact ⟨⟨k + 1, by omega, by have := HLD.out; simp; omega, Lib.hid (by rw [HS3.out, HLD.out]; rfl), K⟩, by have := HLD.out; simp [intOf]; omega⟩
      · have HS3 : Hid (ocW C p = some (ld * 256 + 161 + j)) := Lib.hid (by rw [HS2.out, hs])
        clear hs HZ HS2
        have g2 : (0 : Int) ≤ j := by omega
        go_wp2
        go_ret2
        rw [HS3.out]
        exact ⟨by simp, K.out⟩
    · have hk6 : k = 6 := by omega
      have g0 : ¬ (ld : Int) ≤ 166 := by omega
      have HO : Hid (ocW C p = spG p spW) := Lib.hid (by rw [HS.out, hk6]; rfl)
      clear HS HLD hld
      go_upto_region 9 with (go_at_call 106; (with_reducible refine (SP.out _).mono ?_); rintro e w1 ⟨sa, rfl, hra, hb1⟩; have R := Lib.hid hra; replace K := Lib.hid (nextB K.out hb1); clear hra hb1)
      have hso := spW_ok
      have HSO := Lib.hid hso.2
      have hln := hso.1
      clear hso SP
      generalize spW = S at *
      go_loopw [29] (fun i wr => ∃ k : Nat, k ≤ 19 ∧ i = .int .i64 k ∧ Hid (spG p S = spG p (S.drop k)) ∧ Hid (RecsAt wr sa 19 3 (S.map spR)) ∧ Hid (Below w.heap.size w wr)) (fun i _ => 19 - (intOf i).toNat)
      case atStart => exact ⟨0, by omega, rfl, Lib.hid (by rw [List.drop_zero]), R, K⟩
      case round =>
        clear R K
        obtain ⟨k, hk, rfl, HS, R, K⟩ := hrel
        by_cases hlt : k < 19
        · have g3 : (k : Int) < 19 := by omega
          have hkl : k < S.length := by omega
          obtain ⟨g, off, rfl, hgb, hcell⟩ := R.out.cell (by omega)
          have hc2 := hcell k (by rw [List.length_map]; exact hkl)
          have hso := HSO.out S[k] (List.getElem_mem hkl)
          have HD := Lib.hid (spG_drop p S k hkl)
          have q0 : wr.cell? ⟨g, off + k * 3, none⟩ = some (.int .i64 S[k].1) := by have := hc2 0 (by decide); rw [List.getElem_map] at this; exact this
          have q1 : wr.cell? ⟨g, off + k * 3 + 1, none⟩ = some (.int .i32 S[k].2.1) := by have := hc2 1 (by decide); rw [List.getElem_map, ← Nat.add_assoc] at this; exact this
          have q2 : wr.cell? ⟨g, off + k * 3 + 2, none⟩ = some (.int .i64 S[k].2.2) := by have := hc2 2 (by decide); rw [List.getElem_map, ← Nat.add_assoc] at this; exact this
          obtain ⟨pa, hpa⟩ : ∃ x, x = S[k].1 := ⟨_, rfl⟩
          obtain ⟨pb, hpb⟩ : ∃ x, x = S[k].2.1 := ⟨_, rfl⟩
          obtain ⟨pn, hpn⟩ : ∃ x, x = S[k].2.2 := ⟨_, rfl⟩
          rw [← hpa] at hso q0 HD
          rw [← hpb] at hso q1 HD
          rw [← hpn] at hso q2 HD
          have pa9 : (pa : Int) ≤ 65535 := by omega
          have pb9 : (pb : Int) ≤ 65535 := by omega
          have pn9 : (pn : Int) ≤ 100 := by omega
          clear hpa hpb hpn hso hcell hc2
          go_upto_region 11 with (fail)
          have P := Lib.hid (at_a0 wr #[.int .i64 pa, .int .i32 pb, .int .i64 pn] 146)
          have hB := (Below.refl wr.heap.size wr).alloc (Nat.le_refl _) (.cells #[.int .i64 pa, .int .i32 pb, .int .i64 pn] 146)
          replace R := Lib.hid (R.out.below hB)
          replace K := Lib.hid (nextB K.out hB)
          clear hB q0 q1 q2 hgb
          generalize wr.alloc (.cells #[.int .i64 pa, .int .i32 pb, .int .i64 pn] 146) = w2 at *
          generalize wr.heap.size = lb at *
          obtain ⟨y0, y1, y2⟩ := cells3 (P.out)
          by_cases c1 : pb ≤ p
          · have g4 : (pb : Int) ≤ p := by omega
            obtain ⟨df, hdf⟩ : ∃ df, df = p - pb := ⟨_, rfl⟩
            have hsub : (p : Int) - pb = (df : Int) := by omega
            have hdf9 : (df : Int) ≤ 1114111 := by omega
            by_cases c2 : df < pn
            · have g5 : (df : Int) < pn := by omega
              rw [if_pos ⟨c1, by omega⟩, ← hdf] at HD
              have HN : Hid (ocW C p = some (pa + df)) := Lib.hid (by rw [HO.out, HS.out, HD.out])
              clear HO HS HD hdf R
              go_wp2
              go_ret2
              rw [HN.out]
              exact ⟨by simp, K.out⟩
            · have g5 : ¬ (df : Int) < pn := by omega
              rw [if_neg (fun h => c2 (by omega))] at HD
              clear hdf
              go_wp2
              exact ⟨⟨k + 1, by omega, by simp, Lib.hid (HS.out.trans HD.out), R, K⟩, by simp [intOf]; omega⟩
          · have g4 : ¬ (pb : Int) ≤ p := by omega
            rw [if_neg (fun h => c1 h.1)] at HD
            go_wp2
            exact ⟨⟨k + 1, by omega, by simp, Lib.hid (HS.out.trans HD.out), R, K⟩, by simp [intOf]; omega⟩
        · have g3 : ¬ (k : Int) < 19 := by omega
          have hd0 : S.drop k = [] := List.drop_eq_nil_of_le (by omega)
          have HN : Hid (ocW C p = none) := Lib.hid (by rw [HO.out, HS.out, hd0]; rfl)
          clear HO HS R hd0
          go_wp2
          go_ret2
          rw [HN.out]
          exact ⟨rfl, K.out⟩
def rowW (C : Cst) (f s : Nat) : Option Nat := if 94 ≤ s then none else match wPl C true ((f : Int) * 94 + s - 1410) with | some p => some p | none => othW C ((f + 161) * 256 + (s + 161))
set_option maxHeartbeats 4000000 in
set_option maxRecDepth 100000 in
theorem row_any (C : Cst) (hC : Hid (CstOk C)) (f s : Nat) (hf : (f : Int) ≤ 93) (hs : (s : Int) ≤ 100) (w : World) (hD : Hid (DeB w)) : Calls Tryz.prog 84 #[.int .i64 f, .int .i64 s] w fun e w' => e = .returned (.tuple #[.int .i32 ((rowW C f s).getD 0 : Nat), .bool (rowW C f s).isSome]) ∧ Below w.heap.size w w' := by
  by_cases h : 94 ≤ s
  · have g0 : (94 : Int) ≤ s := by omega
    have HN : Hid (rowW C f s = none) := Lib.hid (by unfold rowW; rw [if_pos h])
    go_enter Tryz.func84, Tryz.ntmps84
    go_wp2
    go_ret2
    rw [HN.out]
    exact ⟨rfl, Below.refl _ _⟩
  · have g0 : ¬ (94 : Int) ≤ s := by omega
    have ho := or_byte_int ((f : Int) + 161) ((s : Int) + 161) (by omega) (by omega) (by omega) (by omega)
    have PL := Lib.hid (fun w hD => wplace_any C hC ((f : Int) * 94 + s - 1410) (by omega) w hD)
    have OT := Lib.hid (fun w => other_any C hC ((f + 161) * 256 + (s + 161)) (by omega) w)
    have HR : Hid (rowW C f s = match wPl C true ((f : Int) * 94 + s - 1410) with | some p => some p | none => othW C ((f + 161) * 256 + (s + 161))) := Lib.hid (by unfold rowW; rw [if_neg h])
    have hcst : ((((f + 161) * 256 + (s + 161) : Nat)) : Int) = ((f : Int) + 161) * 256 + ((s : Int) + 161) := by omega
    rw [hcst] at OT
    clear hcst
    go_enter Tryz.func84, Tryz.ntmps84
    rcases hp : wPl C true ((f : Int) * 94 + s - 1410) with _ | p
    · rw [hp] at PL HR
      clear hp
      replace PL : Hid (∀ w, Hid (DeB w) → Calls Tryz.prog 119 #[.int .i64 ((f : Int) * 94 + s - 1410)] w fun e w' => e = .returned (.tuple #[.int .i32 0, .bool false]) ∧ Below w.heap.size w w') := PL
      generalize othW C ((f + 161) * 256 + (s + 161)) = o at *
      go_wp2_with (first | (go_at_call 119; (with_reducible refine (PL.out _ hD).mono ?_); rintro e w1 ⟨rfl, hb1⟩; have K := Lib.hid hb1; clear hb1) | (go_at_call 120; (with_reducible refine (OT.out _).mono ?_); rintro e w2 ⟨rfl, hb2⟩; replace K := Lib.hid (nextB K.out hb2); clear hb2))
      go_ret2
      rw [HR.out]
      exact ⟨rfl, K.out⟩
    · rw [hp] at PL HR
      clear hp OT
      replace PL : Hid (∀ w, Hid (DeB w) → Calls Tryz.prog 119 #[.int .i64 ((f : Int) * 94 + s - 1410)] w fun e w' => e = .returned (.tuple #[.int .i32 (p : Nat), .bool true]) ∧ Below w.heap.size w w') := PL
      go_wp2_with (first | (go_at_call 119; (with_reducible refine (PL.out _ hD).mono ?_); rintro e w1 ⟨rfl, hb1⟩; have K := Lib.hid hb1; clear hb1))
      go_ret2
      rw [HR.out]
      exact ⟨rfl, K.out⟩
end Go.Proofs.YtffhmjlojmoomaaGreatDoor

namespace Go.Proofs.YtffhmjlojmoomaaGreatDoor
open Go.RowKit
set_option linter.unusedVariables false
set_option linter.unusedSimpArgs false

set_option maxRecDepth 100000 in
theorem mem_cnt' : ∀ M, M = (textsOf Tryz.f123).getD 0 [] → cnt ((List.range 399).map (fun g => bitsOf 28 (grpN M g))).flatten = 2350 := by
  rintro M rfl
  decide +kernel
theorem mem_cnt {C : Cst} (hC : CstOk C) : cnt (wB C).flatten = 2350 := mem_cnt' C.mem (by rw [hC.memE]; rfl)
theorem flat28 : ∀ G : List (List Bool), (∀ g ∈ G, g.length = 28) → G.flatten.length = 28 * G.length
  | [], _ => rfl
  | g :: G, h => by
    rw [List.flatten_cons, List.length_append, h g (by simp), flat28 G (fun x hx => h x (by simp [hx])), List.length_cons]
    omega
theorem wB_flat (C : Cst) : (wB C).flatten.length = 11172 := by rw [flat28 _ (wB_28 C), wB_len]
theorem own_max {C : Cst} (hC : CstOk C) (k : Nat) : wOwn C k ≤ 2350 := by
  unfold wOwn
  rw [← mem_cnt hC]
  conv => rhs; rw [← List.take_append_drop k (wB C).flatten]
  rw [cnt_append]
  omega
theorem rest_max {C : Cst} (hC : CstOk C) (k : Nat) (hk : k ≤ 11172) : k - wOwn C k ≤ 8822 := by
  have h0 := mem_cnt hC
  have h1 : cnt (wB C).flatten = wOwn C k + cnt ((wB C).flatten.drop k) := by
    conv => lhs; rw [← List.take_append_drop k (wB C).flatten]
    rw [cnt_append]
    rfl
  have h2 := cnt_le ((wB C).flatten.drop k)
  rw [List.length_drop, wB_flat] at h2
  omega
def signW (C : Cst) (a b : Nat) : Option Nat := if a < 129 ∨ 254 < a then none else if 161 ≤ a ∧ 161 ≤ b then rowW C (a - 161) (b - 161) else if numW b < 0 then none else if a < 161 then wPl C false (((a : Int) - 129) * 178 + numW b) else wPl C false (5696 + ((a : Int) - 161) * 84 + numW b)
theorem numW_in (b : Int) (h0 : 0 ≤ b) (h1 : b ≤ 255) : -1 ≤ numW b ∧ numW b ≤ 177 := by
  unfold numW
  split
  · omega
  split
  · omega
  split <;> omega
end Go.Proofs.YtffhmjlojmoomaaGreatDoor
