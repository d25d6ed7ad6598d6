/- Layer 7 (wansung): the rank, walked. | Layer 7 (wansung): numbers of second bytes, the lists. | Layer 7 (wansung): the lists, walked. | Layer 7 (wansung): a sign sought in a list, walked. -/
import Derived.Test.YtffhmjlojmoomaaGreatDoorZW2

namespace Go.Proofs.YtffhmjlojmoomaaGreatDoor
open Go.RowKit
set_option linter.unusedVariables false
set_option linter.unusedSimpArgs false

theorem pc_le (n : Nat) : pc n ≤ 32 := by
  have := cnt_le (bitsOf 32 n)
  rw [bitsOf_len] at this
  exact this
set_option maxHeartbeats 4000000 in
set_option maxRecDepth 100000 in
theorem rank_out (p : Int) (h : p < 44032 ∨ 55203 < p) (w : World) : Calls Tryz.prog 86 #[.int .i32 p] w fun e w' => e = .returned (.tuple #[.int .i64 0, .bool false, .bool false]) ∧ w = w' := by
  go_enter Tryz.func86, Tryz.ntmps86
  by_cases h1 : p < 44032
  · go_wp2
    all_goals go_ret3
    all_goals exact ⟨rfl, rfl⟩
  · have h2 : 55203 < p := by omega
    go_wp2
    all_goals go_ret3
    all_goals exact ⟨rfl, rfl⟩
set_option maxHeartbeats 4000000 in
set_option maxRecDepth 100000 in
theorem rank_in (C : Cst) (hC : Hid (CstOk C)) (q r : Nat) (hq : q < 399) (hr : r < 28) (w : World) : Calls Tryz.prog 86 #[.int .i32 (44032 + 28 * (q : Int) + r)] w fun e w' => e = .returned (.tuple #[.int .i64 (if wIn C (28 * q + r) = true then (wOwn C (28 * q + r) : Int) else 28 * (q : Int) + r - wOwn C (28 * q + r)), .bool (wIn C (28 * q + r)), .bool true]) ∧ Below w.heap.size w w' := by
  obtain ⟨k, hk⟩ : ∃ k, k = 28 * q + r := ⟨_, rfl⟩
  have HOP := Lib.hid (own_parts hC.out q r hq hr)
  have HIP := Lib.hid (in_parts hC.out q r hq hr)
  have HLE := Lib.hid (own_le C (28 * q + r))
  rw [← hk] at HOP HIP HLE ⊢
  obtain ⟨p, hp⟩ : ∃ p : Int, p = 44032 + 28 * (q : Int) + r := ⟨_, rfl⟩
  have e0 : p - 44032 = (k : Int) := by omega
  have p1 : 44032 ≤ p := by omega
  have p2 : p ≤ 55203 := by omega
  have e1 : 28 * (q : Int) + r = (k : Int) := by omega
  have e2 : (k : Int) / 28 = (q : Int) := by omega
  have e3 : (k : Int) % 28 = (r : Int) := by omega
  have k2 : (k : Int) ≤ 11171 := by omega
  have hq2 : (q : Int) ≤ 398 := by omega
  have hr2 : (r : Int) ≤ 27 := by omega
  rw [← hp, e1]
  clear hp hk
  go_enter Tryz.func86, Tryz.ntmps86
  go_wp2
  go_loopw [6, 7] (fun o i wr => ∃ j : Nat, j ≤ q ∧ i = .int .i64 j ∧ o = .int .i64 (ownTo C j : Nat) ∧ Hid (Below w.heap.size w wr)) (fun _ i _ => q - (intOf i).toNat)
  case atStart => exact ⟨0, by omega, rfl, by simp [ownTo, cnt], Lib.hid (Below.refl _ _)⟩
  case round =>
    obtain ⟨j, hj, rfl, rfl, K⟩ := hrel
    by_cases hlt : j < q
    · have g0 : (j : Int) < q := by omega
      have GR := Lib.hid (fun w => group_any C hC j (by omega) w)
      have hgl := grp_lt hC.out j (by omega)
      have OC := Lib.hid (fun w => ones_any (grpN C.mem j) (by omega) w)
      have HS := Lib.hid (ownTo_succ hC.out j (by omega))
      have hol := ownTo_le hC.out j (by omega)
      have hol2 : (ownTo C j : Int) ≤ 11172 := by omega
      have hpl := pc_le (grpN C.mem j)
      have hpl2 : (pc (grpN C.mem j) : Int) ≤ 32 := by omega
      generalize pc (grpN C.mem j) = pj at *
      generalize grpN C.mem j = gj at *
      generalize ownTo C j = oj at *
      clear hgl hol hpl HOP HIP HLE
      go_wp2_with (first | (go_at_call 123; (with_reducible refine (GR.out _).mono ?_); rintro e wx ⟨rfl, rfl⟩) | (go_at_call 122; (with_reducible refine (OC.out _).mono ?_); rintro e w2 ⟨rfl, hb2⟩; replace K := Lib.hid (nextB K.out hb2); clear hb2))
      exact ⟨⟨j + 1, hlt, by simp, by rw [HS.out]; simp, K⟩, by simp [intOf]; omega⟩
    · have hjq : j = q := by omega
      subst hjq
      have g0 : ¬ (j : Int) < j := by omega
      have GR := Lib.hid (fun w => group_any C hC j hq w)
      have hgl := grp_lt hC.out j hq
      have hpw : 2 ^ r < 2 ^ 28 := Nat.pow_lt_pow_right (by omega) hr
      have hpw1 : 1 ≤ 2 ^ r := Nat.one_le_two_pow
      obtain ⟨z, hz⟩ : ∃ z, z = 2 ^ r := ⟨_, rfl⟩
      obtain ⟨y, hy⟩ : ∃ y, y = z - 1 := ⟨_, rfl⟩
      rw [← hz] at hpw hpw1 HOP HIP
      rw [← hy] at HOP
      have hol := ownTo_le hC.out j (by omega)
      have hol2 : (ownTo C j : Int) ≤ 11172 := by omega
      obtain ⟨gj, hg⟩ : ∃ gj, gj = grpN C.mem j := ⟨_, rfl⟩
      rw [← hg] at GR hgl HOP HIP
      have z9 : z < 268435456 := by simpa using hpw
      have hA : bits .and .u32 (gj : Int) (y : Int) = ((gj &&& y : Nat) : Int) := u32_and_nat gj y (by omega) (by omega)
      have hB : bits .and .u32 (gj : Int) (z : Int) = ((gj &&& z : Nat) : Int) := u32_and_nat gj z (by omega) (by omega)
      have hya : gj &&& y ≤ gj := Nat.and_le_left
      have OC := Lib.hid (fun w => ones_any (gj &&& y) (by omega) w)
      have hpl := pc_le (gj &&& y)
      have hpl2 : (pc (gj &&& y) : Int) ≤ 32 := by omega
      rw [HIP.out] at hB
      generalize gj &&& y = ay at *
      generalize pc ay = pa at *
      have HOP2 : Hid ((wOwn C k : Int) = (ownTo C j : Int) + (pa : Int)) := Lib.hid (by have := HOP.out; omega)
      generalize ownTo C j = oj at *
      have hz1 : (1 : Int) ≤ z := by omega
      have hz9 : (z : Int) ≤ 134217728 := by
        have : z ≤ 2 ^ 27 := by rw [hz]; exact Nat.pow_le_pow_right (by omega) (by omega)
        omega
      have hzy : (z : Int) - 1 = (y : Int) := by omega
      have HZ : Hid ((2 : Int) ^ r % 4294967296 = (z : Int)) := Lib.hid (by
        have : (2 : Int) ^ r = (z : Int) := by rw [hz]; simp
        omega)
      clear hgl hpw hpw1 hol hya hpl z9 hz hy hg HOP HIP
      go_upto_region 11 with (go_at_call 123; (with_reducible refine (GR.out _).mono ?_); rintro e wx ⟨rfl, rfl⟩)
      rw [HZ.out]
      clear GR HZ
      rcases hw : wIn C k with _ | _
      all_goals simp only [hw, Bool.false_eq_true, if_true, if_false] at hB
      all_goals go_wp2_with (go_at_call 122; (with_reducible refine (OC.out _).mono ?_); rintro e w2 ⟨rfl, hb2⟩; replace K := Lib.hid (nextB K.out hb2); clear hb2)
      all_goals go_ret3
      all_goals (rw [HOP2.out]; exact ⟨rfl, K.out⟩)
end Go.Proofs.YtffhmjlojmoomaaGreatDoor

namespace Go.Proofs.YtffhmjlojmoomaaGreatDoor
open Go.RowKit
set_option linter.unusedVariables false
set_option linter.unusedSimpArgs false

def numW (x : Int) : Int := if 65 ≤ x ∧ x ≤ 90 then x - 65 else if 97 ≤ x ∧ x ≤ 122 then x - 97 + 26 else if 129 ≤ x ∧ x ≤ 254 then x - 129 + 52 else -1
def secW (n : Int) : Int := if n < 26 then 65 + n else if n < 52 then 97 + n - 26 else 129 + n - 52
set_option maxHeartbeats 4000000 in
set_option maxRecDepth 100000 in
theorem wnum_any (x : Int) (h0 : 0 ≤ x) (h1 : x ≤ 255) (w : World) : Calls Tryz.prog 83 #[.int .i64 x] w fun e w' => e = .returned (.int .i64 (numW x)) ∧ w = w' := by
  unfold numW
  go_enter Tryz.func83, Tryz.ntmps83
  by_cases a1 : 65 ≤ x
  · by_cases a2 : x ≤ 90
    · rw [if_pos ⟨a1, a2⟩]
      go_wp2
      all_goals go_ret
      all_goals exact ⟨rfl, rfl⟩
    · rw [if_neg (fun h => a2 h.2)]
      by_cases a3 : 97 ≤ x
      · by_cases a4 : x ≤ 122
        · rw [if_pos ⟨a3, a4⟩]
          go_wp2
          all_goals go_ret
          all_goals exact ⟨rfl, rfl⟩
        · rw [if_neg (fun h => a4 h.2)]
          by_cases a5 : 129 ≤ x
          · by_cases a6 : x ≤ 254
            · rw [if_pos ⟨a5, a6⟩]
              go_wp2
              all_goals go_ret
              all_goals exact ⟨rfl, rfl⟩
            · rw [if_neg (fun h => a6 h.2)]
              go_wp2
              all_goals go_ret
              all_goals exact ⟨rfl, rfl⟩
          · rw [if_neg (fun h => a5 h.1)]
            go_wp2
            all_goals go_ret
            all_goals exact ⟨rfl, rfl⟩
      · rw [if_neg (fun h => a3 h.1), if_neg (fun h => a3 (by omega))]
        have a5 : ¬ 129 ≤ x := by omega
        go_wp2
        all_goals go_ret
        all_goals exact ⟨rfl, rfl⟩
  · rw [if_neg (fun h => a1 h.1), if_neg (fun h => a1 (by omega)), if_neg (fun h => a1 (by omega))]
    have a3 : ¬ 97 ≤ x := by omega
    have a5 : ¬ 129 ≤ x := by omega
    go_wp2
    all_goals go_ret
    all_goals exact ⟨rfl, rfl⟩
set_option maxHeartbeats 4000000 in
set_option maxRecDepth 100000 in
theorem second_any (n : Int) (h0 : 0 ≤ n) (h1 : n ≤ 1000) (w : World) : Calls Tryz.prog 87 #[.int .i64 n] w fun e w' => e = .returned (.int .i64 (secW n)) ∧ w = w' := by
  unfold secW
  go_enter Tryz.func87, Tryz.ntmps87
  by_cases a1 : n < 26
  · rw [if_pos a1]
    go_wp2
    all_goals go_ret
    all_goals exact ⟨rfl, rfl⟩
  · rw [if_neg a1]
    by_cases a2 : n < 52
    · rw [if_pos a2]
      go_wp2
      all_goals go_ret
      all_goals exact ⟨rfl, rfl⟩
    · rw [if_neg a2]
      go_wp2
      all_goals go_ret
      all_goals exact ⟨rfl, rfl⟩
end Go.Proofs.YtffhmjlojmoomaaGreatDoor

namespace Go.Proofs.YtffhmjlojmoomaaGreatDoor
open Go.RowKit
set_option linter.unusedVariables false
set_option linter.unusedSimpArgs false

def lisW (C : Cst) (lead : Int) : List Nat := if lead = 161 then C.wA1 else if lead = 162 then C.wA2 else if lead = 166 then C.wA6 else []
set_option maxHeartbeats 4000000 in
set_option maxRecDepth 100000 in
theorem listed_161 (C : Cst) (hC : Hid (CstOk C)) (w : World) : Calls Tryz.prog 104 #[.int .i64 161] w fun e w' => e = .returned (.tuple #[.string ⟨(listT C.wA1).toArray⟩, .int .i64 41377]) ∧ w = w' := by
  have HE : Hid (textsOf Tryz.f104 = [listT C.wA1, listT C.wA2, listT C.wA6]) := Lib.hid hC.out.wE
  go_enter Tryz.func104, Tryz.ntmps104
  go_upto_region 4 with (fail)
  generalize hL : (List.append _ _ : List UInt8) = M
  have HML : Hid (M = listT C.wA1) := Lib.hid (by
    have h1 : M = (textsOf Tryz.f104).getD 0 [] := by rw [← hL]; decide +kernel
    rw [h1, HE.out]
    rfl)
  clear hL
  rw [HML.out]
  clear HML HE
  go_wp2
  go_ret2
  exact ⟨rfl, rfl⟩
set_option maxHeartbeats 4000000 in
set_option maxRecDepth 100000 in
theorem listed_162 (C : Cst) (hC : Hid (CstOk C)) (w : World) : Calls Tryz.prog 104 #[.int .i64 162] w fun e w' => e = .returned (.tuple #[.string ⟨(listT C.wA2).toArray⟩, .int .i64 41633]) ∧ w = w' := by
  have HE : Hid (textsOf Tryz.f104 = [listT C.wA1, listT C.wA2, listT C.wA6]) := Lib.hid hC.out.wE
  go_enter Tryz.func104, Tryz.ntmps104
  go_upto_region 6 with (fail)
  generalize hL : (List.append _ _ : List UInt8) = M
  have HML : Hid (M = listT C.wA2) := Lib.hid (by
    have h1 : M = (textsOf Tryz.f104).getD 1 [] := by rw [← hL]; decide +kernel
    rw [h1, HE.out]
    rfl)
  clear hL
  rw [HML.out]
  clear HML HE
  go_wp2
  go_ret2
  exact ⟨rfl, rfl⟩
set_option maxHeartbeats 4000000 in
set_option maxRecDepth 100000 in
theorem listed_166 (C : Cst) (hC : Hid (CstOk C)) (w : World) : Calls Tryz.prog 104 #[.int .i64 166] w fun e w' => e = .returned (.tuple #[.string ⟨(listT C.wA6).toArray⟩, .int .i64 42657]) ∧ w = w' := by
  have HE : Hid (textsOf Tryz.f104 = [listT C.wA1, listT C.wA2, listT C.wA6]) := Lib.hid hC.out.wE
  go_enter Tryz.func104, Tryz.ntmps104
  go_upto_region 8 with (fail)
  generalize hL : (List.append _ _ : List UInt8) = M
  have HML : Hid (M = listT C.wA6) := Lib.hid (by
    have h1 : M = (textsOf Tryz.f104).getD 2 [] := by rw [← hL]; decide +kernel
    rw [h1, HE.out]
    rfl)
  clear hL
  rw [HML.out]
  clear HML HE
  go_wp2
  go_ret2
  exact ⟨rfl, rfl⟩
set_option maxHeartbeats 4000000 in
set_option maxRecDepth 100000 in
theorem listed_no (x : Int) (h0 : 0 ≤ x) (h1 : x ≤ 300) (n1 : x ≠ 161) (n2 : x ≠ 162) (n3 : x ≠ 166) (w : World) : Calls Tryz.prog 104 #[.int .i64 x] w fun e w' => e = .returned (.tuple #[.string ⟨#[]⟩, .int .i64 (x * 256 + 161)]) ∧ w = w' := by
  have ho := or_join_int 8 (x * 256) 161 (by omega) (by omega) (by omega) (by decide) (by omega) (by omega)
  go_enter Tryz.func104, Tryz.ntmps104
  go_wp2
  go_ret2
  exact ⟨rfl, rfl⟩
theorem listed_any (C : Cst) (hC : Hid (CstOk C)) (x : Int) (h0 : 0 ≤ x) (h1 : x ≤ 300) (w : World) : Calls Tryz.prog 104 #[.int .i64 x] w fun e w' => e = .returned (.tuple #[.string ⟨(listT (lisW C x)).toArray⟩, .int .i64 (x * 256 + 161)]) ∧ w = w' := by
  unfold lisW
  by_cases a : x = 161
  · subst a; rw [if_pos rfl]; exact listed_161 C hC w
  by_cases b : x = 162
  · subst b; rw [if_neg a, if_pos rfl]; exact listed_162 C hC w
  by_cases c : x = 166
  · subst c; rw [if_neg a, if_neg b, if_pos rfl]; exact listed_166 C hC w
  rw [if_neg a, if_neg b, if_neg c]
  exact listed_no x h0 h1 a b c w
theorem cell_dig (n j : Nat) (hj : j < 4) : (cellT n)[j]? = some (hx ((digs n)[j]'hj)) := by
  match j, hj with
  | 0, _ => rfl
  | 1, _ => rfl
  | 2, _ => rfl
  | 3, _ => rfl
def atW (ns : List Nat) (k : Int) : Option Nat := if k < 0 then none else ns[k.toNat]?
set_option maxHeartbeats 4000000 in
set_option maxRecDepth 100000 in
theorem wat_no (ns : List Nat) (hn : ns.length ≤ 1000) (k : Int) (hk : k < 0 ∨ (ns.length : Int) ≤ k) (h0 : -100000 ≤ k) (h1 : k ≤ 100000) (w : World) : Calls Tryz.prog 105 #[.string ⟨(listT ns).toArray⟩, .int .i64 k] w fun e w' => e = .returned (.tuple #[.int .i32 0, .bool false]) ∧ w = w' := by
  have hl := listT_len ns
  generalize listT ns = t at *
  obtain ⟨m, hm⟩ : ∃ m : Nat, m = ns.length := ⟨_, rfl⟩
  rw [← hm] at hl hn hk
  have e1 : (t.length : Int) / 5 = (m : Int) := by omega
  have e2 : (t.length : Int) ≤ 5000 := by omega
  clear hm hl
  go_enter Tryz.func105, Tryz.ntmps105
  by_cases h : k < 0
  · go_wp2
    all_goals go_ret2
    all_goals exact ⟨rfl, rfl⟩
  · have h2 : (m : Int) ≤ k := by omega
    go_wp2
    all_goals go_ret2
    all_goals exact ⟨rfl, rfl⟩
set_option maxHeartbeats 4000000 in
set_option maxRecDepth 100000 in
theorem wat_in (ns : List Nat) (hn : ns.length ≤ 1000) (hs : Hid (∀ n ∈ ns, n < 65536)) (k : Nat) (hk : k < ns.length) (w : World) : Calls Tryz.prog 105 #[.string ⟨(listT ns).toArray⟩, .int .i64 k] w fun e w' => e = .returned (.tuple #[.int .i32 (ns[k] : Nat), .bool true]) ∧ w = w' := by
  have hl := listT_len ns
  have HG := Lib.hid (fun j hj => listT_get ns k j hk hj)
  have hn6 := hs.out ns[k] (List.getElem_mem hk)
  generalize ns[k] = n at *
  generalize listT ns = t at *
  obtain ⟨m, hm⟩ : ∃ m : Nat, m = ns.length := ⟨_, rfl⟩
  rw [← hm] at hl hn hk
  have e1 : (t.length : Int) / 5 = (m : Int) := by omega
  have e2 : (t.length : Int) ≤ 5000 := by omega
  have k1 : ¬ (k : Int) < 0 := by omega
  have k2 : ¬ (m : Int) ≤ k := by omega
  have k3 : (k : Int) ≤ 1000 := by omega
  have HL := Lib.hid hl
  have HDL := Lib.hid (digs_lt hn6)
  have HDV := Lib.hid (digs_hv hn6)
  have HDE := Lib.hid (fun j hj => digs_le n hn6 j hj)
  have IB := Lib.hid (fun (c : Int) w => Tryz.strings_IndexByte ⟨#[48, 49, 50, 51, 52, 53, 54, 55, 56, 57, 65, 66, 67, 68, 69, 70]⟩ c w)
  have HN := Lib.hid hn6
  have HM := Lib.hid hm
  clear hn6 hm hl hs
  go_enter Tryz.func105, Tryz.ntmps105
  go_upto_region 5 with (fail)
  go_loopw [6, 7] (fun p i wr => ∃ j : Nat, j ≤ 4 ∧ i = .int .i64 ((5 * k + j : Nat) : Int) ∧ p = .int .i32 (hv ((digs n).take j) : Nat) ∧ w = wr) (fun _ i _ => 5 * k + 5 - (intOf i).toNat)
  case atStart => exact ⟨0, by omega, by simp; omega, rfl, rfl⟩
  case round =>
    obtain ⟨j, hj, rfl, rfl, rfl⟩ := hrel
    obtain ⟨q, hq⟩ : ∃ q, q = 5 * k + j := ⟨_, rfl⟩
    rw [← hq]
    have HQ := Lib.hid hq
    by_cases hlt : j < 4
    · have g0 : (q : Int) < (k : Int) * 5 + 5 - 1 := by omega
      have hql : q < t.length := by have := HL.out; omega
      have hqi : (q : Int) < t.length := by omega
      have hdj : j < (digs n).length := hlt
      have hd16 := HDL.out (digs n)[j] (List.getElem_mem hdj)
      have HTJ : Hid (hv ((digs n).take (j + 1)) = hv ((digs n).take j) * 16 + (digs n)[j]) := Lib.hid (by rw [List.take_succ_eq_append_getElem hdj, hv_snoc])
      have hx9 := HDE.out j hlt
      have HTC : Hid (t[q] = hx (digs n)[j]) := Lib.hid (by
        have h1 := HG.out j (by omega)
        rw [cell_dig n j hlt, ← hq, List.getElem?_eq_getElem hql] at h1
        exact Option.some.inj h1)
      have hxd := hx_nat ⟨(digs n)[j], hd16⟩
      have IR : Hid (∀ w, Calls Tryz.prog 110 #[.string ⟨#[48, 49, 50, 51, 52, 53, 54, 55, 56, 57, 65, 66, 67, 68, 69, 70]⟩, .int .u8 (t[q].toNat : Nat)] w fun e w' => e = .returned (.int .i64 ((digs n)[j] : Nat)) ∧ w = w') := Lib.hid (fun w => (IB.out (t[q].toNat : Nat) w).mono (fun e w' ⟨he, hw⟩ => ⟨by
        rw [he]
        have h3 : ((t[q].toNat : Nat) : Int).toNat.toUInt8 = hx (digs n)[j] := by rw [HTC.out]; exact hxd.2.2
        rw [h3]
        exact congrArg (fun z => Ending.returned (.int .i64 z)) hxd.2.1, hw.symm⟩))
      clear hxd HTC
      generalize (digs n)[j] = dj at *
      generalize hv ((digs n).take j) = x at *
      have ho := or_hex x dj hx9 hd16
      have hx8 : (x : Int) ≤ 4095 := by omega
      have hd8 : (dj : Int) ≤ 15 := by omega
      clear hq hd16 hx9 IB HG HDL HDE HDV
      go_wp2_with (go_at_call 110; (with_reducible refine (IR.out _).mono ?_); rintro e wx ⟨rfl, rfl⟩)
      exact ⟨⟨j + 1, by omega, by rw [HQ.out]; simp; omega, by rw [HTJ.out]; simp, trivial⟩, by have := HQ.out; simp [intOf]; omega⟩
    · have hj4 : j = 4 := by omega
      subst hj4
      have g0 : ¬ (q : Int) < (k : Int) * 5 + 5 - 1 := by omega
      have hpv : hv ((digs n).take 4) = n := HDV.out
      rw [hpv]
      clear hq hpv IB HG HDL HDE HDV
      go_wp2
      go_ret2
      exact ⟨rfl, rfl⟩
theorem wat_any (ns : List Nat) (hn : ns.length ≤ 1000) (hs : Hid (∀ n ∈ ns, n < 65536)) (k : Int) (h0 : -100000 ≤ k) (h1 : k ≤ 100000) (w : World) : Calls Tryz.prog 105 #[.string ⟨(listT ns).toArray⟩, .int .i64 k] w fun e w' => e = .returned (.tuple #[.int .i32 ((atW ns k).getD 0 : Nat), .bool (atW ns k).isSome]) ∧ w = w' := by
  unfold atW
  by_cases h : k < 0
  · rw [if_pos h]
    exact wat_no ns hn k (.inl h) h0 h1 w
  · rw [if_neg h]
    obtain ⟨i, rfl⟩ : ∃ i : Nat, k = i := ⟨k.toNat, by omega⟩
    by_cases h2 : i < ns.length
    · rw [Int.toNat_natCast, List.getElem?_eq_getElem h2]
      exact wat_in ns hn hs i h2 w
    · rw [Int.toNat_natCast, List.getElem?_eq_none (by omega)]
      exact wat_no ns hn i (.inr (by omega)) h0 h1 w
end Go.Proofs.YtffhmjlojmoomaaGreatDoor

namespace Go.Proofs.YtffhmjlojmoomaaGreatDoor
open Go.RowKit
set_option linter.unusedVariables false
set_option linter.unusedSimpArgs false

theorem i32_and15 (a : Nat) (ha : a < 2147483648) : bits .and .i32 (a : Int) 15 = ((a % 16 : Nat) : Int) := by
  have e : (BitVec.ofInt IntKind.i32.bits (a : Int) &&& BitVec.ofInt IntKind.i32.bits 15).toNat = a % 16 := by
    rw [BitVec.toNat_and]
    show (BitVec.ofInt 32 (a : Int)).toNat &&& (BitVec.ofInt 32 15).toNat = a % 16
    rw [BitVec.toNat_ofInt]
    have h1 : ((a : Int) % ((2 ^ 32 : Nat) : Int)).toNat = a := by omega
    rw [h1]
    exact Nat.and_two_pow_sub_one_eq_mod a 4
  simp only [bits, e]
  simp only [IntKind.wrap, IntKind.bits, IntKind.signed]
  simp
  omega
/-- the bound which strings.Index asks is in the world's block 3 -/
def Mx (m : Int) (w : World) : Prop := w.cell? ⟨3, 0, none⟩ = some (.int .i64 m) ∧ 3 < w.heap.size
theorem Mx.below {m : Int} {w w' : World} (h : Mx m w) (hb : Below w.heap.size w w') : Mx m w' := ⟨(hb.cell (p := ⟨3, 0, none⟩) h.2).trans h.1, Nat.lt_of_lt_of_le h.2 hb.size⟩
theorem hex_at {d : Nat} (h : d < 16) : ∀ h', ([48, 49, 50, 51, 52, 53, 54, 55, 56, 57, 65, 66, 67, 68, 69, 70] : List UInt8)[d]'h' = hx d := fun h' => by
  have h1 := hx_get ⟨d, h⟩
  rw [show hexL = [48, 49, 50, 51, 52, 53, 54, 55, 56, 57, 65, 66, 67, 68, 69, 70] from rfl, List.getElem?_eq_getElem h'] at h1
  exact Option.some.inj h1
def fdW (ns : List Nat) (p : Nat) : Int := match ns.findIdx? (· == p) with | some k => (k : Int) | none => -1
set_option maxHeartbeats 4000000 in
set_option maxRecDepth 100000 in
theorem find_out (l : List UInt8) (p : Int) (h : p < 0 ∨ 65535 < p) (w : World) : Calls Tryz.prog 124 #[.string ⟨l.toArray⟩, .int .i32 p] w fun e w' => e = .returned (.int .i64 (-1)) ∧ w = w' := by
  go_enter Tryz.func124, Tryz.ntmps124
  by_cases h1 : p < 0
  · go_wp2
    all_goals go_ret
    all_goals exact ⟨rfl, rfl⟩
  · have h2 : 65535 < p := by omega
    go_wp2
    all_goals go_ret
    all_goals exact ⟨rfl, rfl⟩
set_option maxHeartbeats 4000000 in
set_option maxRecDepth 100000 in
theorem find_in (ns : List Nat) (hn : ns.length ≤ 1000) (hs : Hid (∀ n ∈ ns, n < 65536)) (p : Nat) (hp : p < 65536) (m : Int) (w : World) (hm : Hid (Mx m w)) : Calls Tryz.prog 124 #[.string ⟨(listT ns).toArray⟩, .int .i32 p] w fun e w' => e = .returned (.int .i64 (fdW ns p)) ∧ Below w.heap.size w w' := by
  have HI := Lib.hid (index_list ns p hp hs.out)
  have hl := listT_len ns
  have HLN : Hid ((listT ns).length ≤ 5000) := Lib.hid (by omega)
  clear hl
  generalize listT ns = t at *
  have p1 : ¬ (p : Int) < 0 := by omega
  have p2 : ¬ (65535 : Int) < p := by omega
  obtain ⟨d0, h0⟩ : ∃ d, d = p / 4096 := ⟨_, rfl⟩
  obtain ⟨q1, hq1⟩ : ∃ d, d = p / 256 := ⟨_, rfl⟩
  obtain ⟨q2, hq2⟩ : ∃ d, d = p / 16 := ⟨_, rfl⟩
  obtain ⟨d1, h1⟩ : ∃ d, d = q1 % 16 := ⟨_, rfl⟩
  obtain ⟨d2, h2⟩ : ∃ d, d = q2 % 16 := ⟨_, rfl⟩
  obtain ⟨d3, h3⟩ : ∃ d, d = p % 16 := ⟨_, rfl⟩
  have s0 : (p : Int) / 4096 = (d0 : Int) := by omega
  have s1 : (p : Int) / 256 = (q1 : Int) := by omega
  have s2 : (p : Int) / 16 = (q2 : Int) := by omega
  have b1 : bits .and .i32 (q1 : Int) 15 = (d1 : Int) := by rw [i32_and15 q1 (by omega), h1]
  have b2 : bits .and .i32 (q2 : Int) 15 = (d2 : Int) := by rw [i32_and15 q2 (by omega), h2]
  have b3 : bits .and .i32 (p : Int) 15 = (d3 : Int) := by rw [i32_and15 p (by omega), h3]
  have i0 : (d0 : Int) < 16 := by omega
  have i1 : (d1 : Int) < 16 := by omega
  have i2 : (d2 : Int) < 16 := by omega
  have i3 : (d3 : Int) < 16 := by omega
  have HC : Hid (cellT p = [hx d0, hx d1, hx d2, hx d3, 32]) := Lib.hid (by unfold cellT; rw [h0, h1, h2, h3, hq1, hq2])
  have G0 := hex_at (d := d0) (by omega)
  have G1 := hex_at (d := d1) (by omega)
  have G2 := hex_at (d := d2) (by omega)
  have G3 := hex_at (d := d3) (by omega)
  have HG := Lib.hid (And.intro G0 (And.intro G1 (And.intro G2 G3)))
  clear h0 h1 h2 h3 hq1 hq2 hp G0 G1 G2 G3
  go_enter Tryz.func124, Tryz.ntmps124
  go_upto_region 3 with (fail)
  go_region
  obtain ⟨G0, G1, G2, G3⟩ := HG.out
  simp only [G0, G1, G2, G3]
  clear G0 G1 G2 G3 HG s0 s1 s2 i0 i1 i2 i3
  have HGET : Hid (∀ o, (w.alloc o).drew.heap[w.heap.size]? = some o) := Lib.hid (fun o => by show (w.heap.push o)[w.heap.size]? = some o; simp)
  have hB : Below w.heap.size w (w.alloc (Obj.cells #[.int .u8 (hx d0).toNat, .int .u8 (hx d1).toNat, .int .u8 (hx d2).toNat, .int .u8 (hx d3).toNat, .int .u8 32] 5)).drew := ((Below.refl w.heap.size w).alloc (Nat.le_refl _) _).drew
  have hV : Buf (w.alloc (Obj.cells #[.int .u8 (hx d0).toNat, .int .u8 (hx d1).toNat, .int .u8 (hx d2).toNat, .int .u8 (hx d3).toNat, .int .u8 32] 5)).drew w.heap.size 5 (.slice (some ⟨w.heap.size, 0, none⟩) 5 5) (cellT p) := by
    rw [HC.out]
    exact ⟨rfl, .inr ⟨w.heap.size, 5, #[.int .u8 (hx d0).toNat, .int .u8 (hx d1).toNat, .int .u8 (hx d2).toNat, .int .u8 (hx d3).toNat, .int .u8 32], rfl, Nat.le_refl _, HGET.out _, Nat.le_refl 5, (by decide : 5 ≤ maxLen), rfl, rfl⟩⟩
  generalize (w.alloc (Obj.cells #[.int .u8 (hx d0).toNat, .int .u8 (hx d1).toNat, .int .u8 (hx d2).toNat, .int .u8 (hx d3).toNat, .int .u8 32] 5)).drew = w1 at *
  have hcv := ownsRow_bytes (P := Tryz.prog) (src := 35) (dst := 9) (show World.ownsRow _ _ _ _ _ _ _ from hV) Tryz.underlying35 Tryz.underlying5 Tryz.underlying9
  have hM1 := hm.out.below hB
  have SI := Lib.hid (Tryz.strings_Index ⟨t.toArray⟩ ⟨(cellT p).toArray⟩ m w1 (by show t.toArray.size < _; have := HLN.out; simp; omega) hM1.1)
  have HR : Hid (Lib.index (⟨t.toArray⟩ : ByteArray).data.toList (⟨(cellT p).toArray⟩ : ByteArray).data.toList = match ns.findIdx? (· == p) with | some k => ((5 * k : Nat) : Int) | none => -1) := Lib.hid HI.out
  rw [HR.out] at SI
  have HB := Lib.hid hB
  have HF : Hid (match ns.findIdx? (· == p) with | some k => fdW ns p = (k : Int) | none => fdW ns p = -1) := Lib.hid (by
    unfold fdW
    split <;> rfl)
  clear HI HR HC hB hM1 hV b1 b2 b3 HGET
  rcases hf : ns.findIdx? (· == p) with _ | k
  · simp only [hf] at SI HF
    clear hf
    go_wp2_with (go_at_call 125; (with_reducible refine SI.out.mono ?_); rintro e wx ⟨rfl, rfl⟩)
    go_ret
    rw [HF.out]
    exact ⟨rfl, HB.out⟩
  · simp only [hf] at SI HF
    have hk5 : (k : Int) ≤ 1000 := by
      have h1 := (List.findIdx?_eq_some_iff_getElem.1 hf).1
      omega
    have k0 : ¬ ((5 * k : Nat) : Int) < 0 := by omega
    have k1 : ((5 * k : Nat) : Int) / 5 = (k : Int) := by omega
    generalize ((5 * k : Nat) : Int) = f5 at *
    clear hf
    go_wp2_with (go_at_call 125; (with_reducible refine SI.out.mono ?_); rintro e wx ⟨rfl, rfl⟩)
    go_ret
    rw [HF.out, k1]
    exact ⟨rfl, HB.out⟩
end Go.Proofs.YtffhmjlojmoomaaGreatDoor
