/- Layer 7 (wansung): Bytes, walked. | Layer 7 (wansung), plain: the two bytes of a sign lead back to it. -/
import Derived.Test.YtffhmjlojmoomaaGreatDoorZW13
import Derived.Test.YtffhmjlojmoomaaGreatDoorZJ2

namespace Go.Proofs.YtffhmjlojmoomaaGreatDoor
open Go.RowKit
set_option linter.unusedVariables false
set_option linter.unusedSimpArgs false

theorem rank_any (C : Cst) (hC : Hid (CstOk C)) (k : Nat) (hk : k < 11172) (w : World) : Calls Tryz.prog 86 #[.int .i32 ((44032 + k : Nat) : Int)] w fun e w' => e = .returned (.tuple #[.int .i64 (if wIn C k = true then (wOwn C k : Int) else (k : Int) - wOwn C k), .bool (wIn C k), .bool true]) ∧ Below w.heap.size w w' := by
  have h := rank_in C hC (k / 28) (k % 28) (by omega) (by omega) w
  have e1 : 28 * (k / 28) + k % 28 = k := by omega
  have e2 : (44032 + 28 * ((k / 28 : Nat) : Int) + ((k % 28 : Nat) : Int)) = ((44032 + k : Nat) : Int) := by omega
  have e3 : 28 * ((k / 28 : Nat) : Int) + ((k % 28 : Nat) : Int) = (k : Int) := by omega
  rw [e1, e2, e3] at h
  exact h
def bytesW (C : Cst) (p : Nat) : Option Nat :=
  if 44032 ≤ p ∧ p ≤ 55203 then
    if wIn C (p - 44032) = true then some ((161 + (wOwn C (p - 44032) + 1410) / 94) * 256 + (161 + (wOwn C (p - 44032) + 1410) % 94))
    else if p - 44032 - wOwn C (p - 44032) < 5696 then some ((129 + (p - 44032 - wOwn C (p - 44032)) / 178) * 256 + (secW (((p - 44032 - wOwn C (p - 44032)) % 178 : Nat) : Int)).toNat)
    else some ((161 + (p - 44032 - wOwn C (p - 44032) - 5696) / 84) * 256 + (secW (((p - 44032 - wOwn C (p - 44032) - 5696) % 84 : Nat) : Int)).toNat)
  else ocW C p
def wTxt (C : Cst) (p : Nat) : List UInt8 := match bytesW C p with | some c => bigL c 2 | none => []
theorem secW_in (n : Int) (h0 : 0 ≤ n) (h1 : n < 178) : 0 ≤ secW n ∧ secW n < 256 := by
  unfold secW
  split
  · omega
  split <;> omega
theorem spG_lt (p : Nat) : ∀ L : List (Nat × Nat × Nat), (∀ x ∈ L, x.1 ≤ 60000 ∧ x.2.2 ≤ 100) → ∀ c, spG p L = some c → c < 65536
  | [], _, c, h => by cases h
  | x :: L, hL, c, h => by
    have hx := hL x (by simp)
    unfold spG at h
    split at h
    · obtain rfl := Option.some.inj h
      omega
    · exact spG_lt p L (fun y hy => hL y (by simp [hy])) c h
theorem liW_lt {C : Cst} (hC : CstOk C) (p lead c : Nat) (hl : lead ≤ 170) (h : liW C p lead = some c) : c < 65536 := by
  unfold liW at h
  split at h
  · rcases hf : (lisW C lead).findIdx? (· == p) with _ | k
    · rw [hf] at h; cases h
    · rw [hf] at h
      have h3 := (List.findIdx?_eq_some_iff_getElem.1 hf).1
      have h4 := (lisW_len hC lead).1
      obtain rfl := Option.some.inj h
      show lead * 256 + 161 + k < 65536
      omega
  · cases h
theorem ocF_lt {C : Cst} (hC : CstOk C) (p : Nat) : ∀ (n lead c : Nat), lead + n ≤ 170 → ocF C p n lead = some c → c < 65536
  | 0, lead, c, _, h => spG_lt p spW (by decide) c h
  | n + 1, lead, c, hl, h => by
    unfold ocF at h
    rcases hf : liW C p lead with _ | d
    · rw [hf] at h
      exact ocF_lt hC p n (lead + 1) c (by omega) h
    · rw [hf] at h
      obtain rfl := Option.some.inj h
      exact liW_lt hC p lead d (by omega) hf
set_option maxHeartbeats 4000000 in
set_option maxRecDepth 100000 in
theorem wbytes_out (C : Cst) (hC : Hid (CstOk C)) (p : Nat) (hp : (p : Int) ≤ 1114111) (hr : p < 44032 ∨ 55203 < p) (m : Int) (w : World) (hm : Hid (Mx m w)) : Calls Tryz.prog 38 #[.int .i32 p] w fun e w' => e = .returned (.tuple #[.string ⟨(wTxt C p).toArray⟩, .bool (bytesW C p).isSome]) ∧ Below w.heap.size w w' := by
  have RK := Lib.hid (fun w => rank_out p (by omega) w)
  have OC := Lib.hid (fun w hm => otherCode_any C hC p hp m w hm)
  have HB : Hid (bytesW C p = ocW C p) := Lib.hid (by unfold bytesW; rw [if_neg (by omega)])
  rcases ho : ocW C p with _ | c
  · have HT : Hid (wTxt C p = []) := Lib.hid (by unfold wTxt; rw [HB.out, ho])
    rw [ho] at HB
    rw [ho] at OC
    replace OC : Hid (∀ w, Hid (Mx m w) → Calls Tryz.prog 88 #[.int .i32 p] w fun e w' => e = .returned (.tuple #[.int .i64 0, .bool false]) ∧ Below w.heap.size w w') := OC
    clear ho
    go_enter Tryz.func38, Tryz.ntmps38
    go_wp2_with (first | (go_at_call 86; (with_reducible refine (RK.out _).mono ?_); rintro e wx ⟨rfl, rfl⟩) | (go_at_call 88; (with_reducible refine (OC.out _ hm).mono ?_); rintro e w1 ⟨rfl, hb1⟩; have K := Lib.hid hb1; clear hb1))
    go_ret2
    rw [HT.out, HB.out]
    exact ⟨rfl, K.out⟩
  · have hc := ocF_lt hC.out p 6 161 c (by omega) ho
    have HT : Hid (wTxt C p = bigL c 2) := Lib.hid (by unfold wTxt; rw [HB.out, ho])
    rw [ho] at HB
    rw [ho] at OC
    replace OC : Hid (∀ w, Hid (Mx m w) → Calls Tryz.prog 88 #[.int .i32 p] w fun e w' => e = .returned (.tuple #[.int .i64 c, .bool true]) ∧ Below w.heap.size w w') := OC
    have BG := Lib.hid (fun w => big2_any c (by omega) (by omega) w)
    have hc9 : (c : Int) < 65536 := by omega
    clear ho hc
    go_enter Tryz.func38, Tryz.ntmps38
    go_wp2_with (first | (go_at_call 86; (with_reducible refine (RK.out _).mono ?_); rintro e wx ⟨rfl, rfl⟩) | (go_at_call 88; (with_reducible refine (OC.out _ hm).mono ?_); rintro e w1 ⟨rfl, hb1⟩; have K := Lib.hid hb1; clear hb1) | (go_at_call 81; (with_reducible refine (BG.out _).mono ?_); rintro e w2 ⟨rfl, hb2⟩; replace K := Lib.hid (nextB K.out hb2); clear hb2))
    go_ret2
    rw [HT.out, HB.out]
    exact ⟨rfl, K.out⟩
set_option maxHeartbeats 4000000 in
set_option maxRecDepth 100000 in
theorem wbytes_in (C : Cst) (hC : Hid (CstOk C)) (k : Nat) (hk : k < 11172) (w : World) : Calls Tryz.prog 38 #[.int .i32 ((44032 + k : Nat) : Int)] w fun e w' => e = .returned (.tuple #[.string ⟨(wTxt C (44032 + k)).toArray⟩, .bool (bytesW C (44032 + k)).isSome]) ∧ Below w.heap.size w w' := by
  have RK := Lib.hid (fun w => rank_any C hC k hk w)
  have hom := own_max hC.out k
  have hrm := rest_max hC.out k (by omega)
  have hol := own_le C k
  have HB : Hid (bytesW C (44032 + k) = if wIn C k = true then some ((161 + (wOwn C k + 1410) / 94) * 256 + (161 + (wOwn C k + 1410) % 94)) else if k - wOwn C k < 5696 then some ((129 + (k - wOwn C k) / 178) * 256 + (secW (((k - wOwn C k) % 178 : Nat) : Int)).toNat) else some ((161 + (k - wOwn C k - 5696) / 84) * 256 + (secW (((k - wOwn C k - 5696) % 84 : Nat) : Int)).toNat)) := Lib.hid (by
    unfold bytesW
    rw [if_pos (by omega), show 44032 + k - 44032 = k by omega])
  have HT : Hid (wTxt C (44032 + k) = match bytesW C (44032 + k) with | some c => bigL c 2 | none => []) := Lib.hid rfl
  obtain ⟨p, hp⟩ : ∃ p, p = 44032 + k := ⟨_, rfl⟩
  rw [← hp] at HB HT RK ⊢
  have p9 : (p : Int) ≤ 55203 := by omega
  clear hp
  rcases hin : wIn C k with _ | _
  · rw [hin] at RK HB
    obtain ⟨r, hr⟩ : ∃ r, r = k - wOwn C k := ⟨_, rfl⟩
    have e0 : (k : Int) - wOwn C k = (r : Int) := by omega
    replace RK : Hid (∀ w, Calls Tryz.prog 86 #[.int .i32 p] w fun e w' => e = .returned (.tuple #[.int .i64 (r : Int), .bool false, .bool true]) ∧ Below w.heap.size w w') := Lib.hid (fun w => by rw [← e0]; exact RK.out w)
    rw [← hr] at HB hrm
    rw [if_neg (by simp)] at HB
    by_cases h5 : r < 5696
    · have g1 : (r : Int) < 5696 := by omega
      obtain ⟨a, ha⟩ : ∃ a, a = r / 178 := ⟨_, rfl⟩
      obtain ⟨b, hb⟩ : ∃ b, b = r % 178 := ⟨_, rfl⟩
      have e1 : (r : Int) / 178 = (a : Int) := by omega
      have e2 : (r : Int) % 178 = (b : Int) := by omega
      have b9 : (b : Int) < 178 := by omega
      have a9 : (a : Int) ≤ 31 := by omega
      obtain ⟨s0, s1⟩ := secW_in b (by omega) b9
      rw [if_pos h5, ← ha, ← hb] at HB
      have SC := Lib.hid (fun w => second_any b (by omega) (by omega) w)
      generalize secW b = s at *
      have ho := or_byte_int (129 + (a : Int)) s (by omega) (by omega) (by omega) (by omega)
      obtain ⟨c, hc⟩ : ∃ c, c = (129 + a) * 256 + s.toNat := ⟨_, rfl⟩
      have e3 : (129 + (a : Int)) * 256 + s = (c : Int) := by omega
      have BG := Lib.hid (fun w => big2_any c (by omega) (by omega) w)
      have hc9 : (c : Int) < 65536 := by omega
      rw [← hc] at HB
      rw [HB.out] at HT
      rw [e3] at ho
      clear hin e0 hr ha hb hc e3 hom hrm hol h5 hk
      go_enter Tryz.func38, Tryz.ntmps38
      go_wp2_with (first | (go_at_call 86; (with_reducible refine (RK.out _).mono ?_); rintro e w1 ⟨rfl, hb1⟩; have K := Lib.hid hb1; clear hb1) | (go_at_call 87; (with_reducible refine (SC.out _).mono ?_); rintro e wx ⟨rfl, rfl⟩) | (go_at_call 81; (with_reducible refine (BG.out _).mono ?_); rintro e w2 ⟨rfl, hb2⟩; replace K := Lib.hid (nextB K.out hb2); clear hb2))
      go_ret2
      rw [HT.out, HB.out]
      exact ⟨rfl, K.out⟩
    · have g1 : ¬ (r : Int) < 5696 := by omega
      obtain ⟨d, hd⟩ : ∃ d, d = r - 5696 := ⟨_, rfl⟩
      have e4 : (r : Int) - 5696 = (d : Int) := by omega
      rw [if_neg h5, ← hd] at HB
      obtain ⟨a, ha⟩ : ∃ a, a = d / 84 := ⟨_, rfl⟩
      obtain ⟨b, hb⟩ : ∃ b, b = d % 84 := ⟨_, rfl⟩
      have e1 : (d : Int) / 84 = (a : Int) := by omega
      have e2 : (d : Int) % 84 = (b : Int) := by omega
      have b9 : (b : Int) < 178 := by omega
      have a9 : (a : Int) ≤ 40 := by omega
      have d9 : (d : Int) ≤ 3126 := by omega
      obtain ⟨s0, s1⟩ := secW_in b (by omega) b9
      rw [← ha, ← hb] at HB
      have SC := Lib.hid (fun w => second_any b (by omega) (by omega) w)
      generalize secW b = s at *
      have ho := or_byte_int (161 + (a : Int)) s (by omega) (by omega) (by omega) (by omega)
      obtain ⟨c, hc⟩ : ∃ c, c = (161 + a) * 256 + s.toNat := ⟨_, rfl⟩
      have e3 : (161 + (a : Int)) * 256 + s = (c : Int) := by omega
      have BG := Lib.hid (fun w => big2_any c (by omega) (by omega) w)
      have hc9 : (c : Int) < 65536 := by omega
      rw [← hc] at HB
      rw [HB.out] at HT
      rw [e3] at ho
      have gd : decide ((r : Int) < 5696) = false := decide_eq_false g1
      have gp : ((r : Int) < 5696) = False := eq_false g1
      have r9 : (r : Int) ≤ 100000 := by omega
      clear g1
      have E := Lib.hid (And.intro e4 (And.intro e1 (And.intro e2 ho)))
      have E2 := Lib.hid (And.intro b9 (And.intro a9 (And.intro d9 (And.intro s0 s1))))
      clear hin e0 hr ha hb hc e3 hom hrm hol h5 hk hd e4 e1 e2 ho b9 a9 d9 s0 s1
      go_enter Tryz.func38, Tryz.ntmps38
      go_upto_region 13 with (go_at_call 86; (with_reducible refine (RK.out _).mono ?_); rintro e w1 ⟨rfl, hb1⟩; have K := Lib.hid hb1; clear hb1)
      have e4 := E.out.1
      go_upto_region 14 with (fail)
      clear e4 gd gp r9
      obtain ⟨-, e1, e2, ho⟩ := E.out
      obtain ⟨b9, a9, d9, s0, s1⟩ := E2.out
      clear E E2
      go_wp2_with (first | (go_at_call 86; (with_reducible refine (RK.out _).mono ?_); rintro e w1 ⟨rfl, hb1⟩; have K := Lib.hid hb1; clear hb1) | (go_at_call 87; (with_reducible refine (SC.out _).mono ?_); rintro e wx ⟨rfl, rfl⟩) | (go_at_call 81; (with_reducible refine (BG.out _).mono ?_); rintro e w2 ⟨rfl, hb2⟩; replace K := Lib.hid (nextB K.out hb2); clear hb2))
      go_ret2
      rw [HT.out, HB.out]
      exact ⟨rfl, K.out⟩
  · rw [hin] at RK HB
    obtain ⟨r, hr⟩ : ∃ r, r = wOwn C k + 1410 := ⟨_, rfl⟩
    obtain ⟨o, ho0⟩ : ∃ o, o = wOwn C k := ⟨_, rfl⟩
    replace RK : Hid (∀ w, Calls Tryz.prog 86 #[.int .i32 p] w fun e w' => e = .returned (.tuple #[.int .i64 (o : Int), .bool true, .bool true]) ∧ Below w.heap.size w w') := Lib.hid (fun w => by rw [ho0]; exact RK.out w)
    have e4 : (o : Int) + 1410 = (r : Int) := by omega
    have o9 : (o : Int) ≤ 2350 := by omega
    rw [if_pos rfl, ← hr] at HB
    obtain ⟨a, ha⟩ : ∃ a, a = r / 94 := ⟨_, rfl⟩
    obtain ⟨b, hb⟩ : ∃ b, b = r % 94 := ⟨_, rfl⟩
    have e1 : (r : Int) / 94 = (a : Int) := by omega
    have e2 : (r : Int) % 94 = (b : Int) := by omega
    have b9 : (b : Int) < 94 := by omega
    have a9 : (a : Int) ≤ 40 := by omega
    rw [← ha, ← hb] at HB
    have ho := or_byte_int (161 + (a : Int)) (161 + (b : Int)) (by omega) (by omega) (by omega) (by omega)
    obtain ⟨c, hc⟩ : ∃ c, c = (161 + a) * 256 + (161 + b) := ⟨_, rfl⟩
    have e3 : (161 + (a : Int)) * 256 + (161 + (b : Int)) = (c : Int) := by omega
    have BG := Lib.hid (fun w => big2_any c (by omega) (by omega) w)
    have hc9 : (c : Int) < 65536 := by omega
    rw [← hc] at HB
    rw [HB.out] at HT
    rw [e3] at ho
    clear hin hr ha hb hc e3 hom hrm hol hk ho0
    go_enter Tryz.func38, Tryz.ntmps38
    go_wp2_with (first | (go_at_call 86; (with_reducible refine (RK.out _).mono ?_); rintro e w1 ⟨rfl, hb1⟩; have K := Lib.hid hb1; clear hb1) | (go_at_call 81; (with_reducible refine (BG.out _).mono ?_); rintro e w2 ⟨rfl, hb2⟩; replace K := Lib.hid (nextB K.out hb2); clear hb2))
    go_ret2
    rw [HT.out, HB.out]
    exact ⟨rfl, K.out⟩
theorem wbytes_any (C : Cst) (hC : Hid (CstOk C)) (p : Nat) (hp : (p : Int) ≤ 1114111) (m : Int) (w : World) (hm : Hid (Mx m w)) : Calls Tryz.prog 38 #[.int .i32 p] w fun e w' => e = .returned (.tuple #[.string ⟨(wTxt C p).toArray⟩, .bool (bytesW C p).isSome]) ∧ Below w.heap.size w w' := by
  by_cases h : 44032 ≤ p ∧ p ≤ 55203
  · have h1 := wbytes_in C hC (p - 44032) (by omega) w
    rw [show 44032 + (p - 44032) = p by omega] at h1
    exact h1
  · exact wbytes_out C hC p hp (by omega) m w hm
end Go.Proofs.YtffhmjlojmoomaaGreatDoor

namespace Go.Proofs.YtffhmjlojmoomaaGreatDoor
open Go.RowKit
set_option linter.unusedVariables false
set_option linter.unusedSimpArgs false

theorem spG_mem (p : Nat) : ∀ (L : List (Nat × Nat × Nat)) (c : Nat), spG p L = some c → ∃ x ∈ L, x.2.1 ≤ p ∧ p < x.2.1 + x.2.2 ∧ c = x.1 + (p - x.2.1)
  | [], c, h => by cases h
  | x :: L, c, h => by
    unfold spG at h
    split at h
    · rename_i hx
      obtain rfl := Option.some.inj h
      exact ⟨x, by simp, hx.1, hx.2, rfl⟩
    · obtain ⟨y, hy, h1⟩ := spG_mem p L c h
      exact ⟨y, by simp [hy], h1⟩
theorem spW_back : ∀ x ∈ spW, x.2.2 ≤ 100 ∧ ∀ i : Fin 100, i.val < x.2.2 → spF (x.1 + i.val) spW = some (x.2.1 + i.val) ∧ 161 ≤ (x.1 + i.val) % 256 ∧ (x.1 + i.val) % 256 ≤ 254 ∧ 163 ≤ (x.1 + i.val) / 256 ∧ (x.1 + i.val) / 256 ≤ 172 ∧ (x.1 + i.val) / 256 ≠ 166 := by decide +kernel
theorem liW_back {C : Cst} (hC : CstOk C) (p lead c : Nat) (h0 : 161 ≤ lead) (hl : lead ≤ 166) (h : liW C p lead = some c) : othW C c = some p ∧ 161 ≤ c / 256 ∧ c / 256 ≤ 172 ∧ 161 ≤ c % 256 ∧ c % 256 ≤ 254 := by
  unfold liW at h
  split at h
  · rcases hf : (lisW C lead).findIdx? (· == p) with _ | k
    · rw [hf] at h; cases h
    · rw [hf] at h
      obtain ⟨h3, h4, -⟩ := List.findIdx?_eq_some_iff_getElem.1 hf
      have h5 : (lisW C lead).length ≤ 94 := by
        obtain ⟨e1, e2, e3, -⟩ := hC.wL
        unfold lisW
        split
        · omega
        split
        · omega
        split
        · omega
        · simp
      have hc9 : lead * 256 + 161 + k = c := Option.some.inj h
      subst hc9
      have q1 : (lead * 256 + 161 + k) / 256 = lead := by omega
      have q2 : (lead * 256 + 161 + k) % 256 = 161 + k := by omega
      refine ⟨?_, by omega, by omega, by omega, by omega⟩
      unfold othW
      show (if (lead * 256 + 161 + k) % 256 < 161 ∨ 254 < (lead * 256 + 161 + k) % 256 then none else _) = _
      rw [if_neg (by omega)]
      have q3 : ((lead * 256 + 161 + k) / 256 : Nat) = lead := q1
      show (if lisW C (((lead * 256 + 161 + k) / 256 : Nat) : Int) = [] then _ else atW (lisW C (((lead * 256 + 161 + k) / 256 : Nat) : Int)) (((lead * 256 + 161 + k : Nat) : Int) - ((((lead * 256 + 161 + k) / 256 : Nat)) * 256 + 161))) = _
      rw [q3, if_neg (fun e => by rw [e] at h3; simp at h3), show (((lead * 256 + 161 + k : Nat) : Int) - ((lead : Nat) * 256 + 161)) = (k : Int) by omega]
      unfold atW
      rw [if_neg (by omega), Int.toNat_natCast, List.getElem?_eq_getElem h3]
      simpa using h4
  · cases h
theorem ocF_back {C : Cst} (hC : CstOk C) (p : Nat) : ∀ (n lead c : Nat), 161 ≤ lead → lead + n ≤ 167 → ocF C p n lead = some c → othW C c = some p ∧ 161 ≤ c / 256 ∧ c / 256 ≤ 172 ∧ 161 ≤ c % 256 ∧ c % 256 ≤ 254
  | 0, lead, c, _, _, h => by
    obtain ⟨x, hx, h1, h2, rfl⟩ := spG_mem p spW c h
    obtain ⟨h3, h4⟩ := spW_back x hx
    obtain ⟨h5, h6, h7, h8, h9, h10⟩ := h4 ⟨p - x.2.1, by omega⟩ (by show p - x.2.1 < _; omega)
    simp only at h5 h6 h7 h8 h9 h10
    refine ⟨?_, by omega, by omega, by omega, by omega⟩
    unfold othW
    rw [if_neg (by omega), if_pos, h5]
    · rw [show x.2.1 + (p - x.2.1) = p by omega]
    · unfold lisW
      rw [if_neg (by omega), if_neg (by omega), if_neg (by omega)]
  | n + 1, lead, c, h0, hl, h => by
    unfold ocF at h
    rcases hf : liW C p lead with _ | d
    · rw [hf] at h
      exact ocF_back hC p n (lead + 1) c (by omega) (by omega) h
    · rw [hf] at h
      obtain rfl := Option.some.inj h
      exact liW_back hC p lead d h0 (by omega) hf
theorem wPl_neg (C : Cst) (b : Bool) (k : Int) (h : k < 0) : wPl C b k = none := by unfold wPl; rw [if_pos h]
theorem rowW_other {C : Cst} (c p : Nat) (h : othW C c = some p) (h1 : 161 ≤ c / 256) (h2 : c / 256 ≤ 172) (h3 : 161 ≤ c % 256) (h4 : c % 256 ≤ 254) : rowW C (c / 256 - 161) (c % 256 - 161) = some p := by
  unfold rowW
  rw [if_neg (by omega), wPl_neg C true _ (by omega), show (c / 256 - 161 + 161) * 256 + (c % 256 - 161 + 161) = c by omega]
  exact h
theorem numW_sec (n : Int) (h0 : 0 ≤ n) (h1 : n < 178) : numW (secW n) = n := by
  unfold secW
  split
  · unfold numW
    rw [if_pos (by omega)]; omega
  split
  · unfold numW
    rw [if_neg (by omega), if_pos (by omega)]; omega
  · unfold numW
    rw [if_neg (by omega), if_neg (by omega), if_pos (by omega)]; omega
theorem map_not_flat : ∀ G : List (List Bool), (G.map (fun l => l.map (!·))).flatten = G.flatten.map (!·)
  | [] => rfl
  | g :: G => by
    rw [List.map_cons, List.flatten_cons, List.flatten_cons, List.map_append, map_not_flat G]
theorem wPl_in {C : Cst} (k : Nat) (hk : k < 11172) (h : wIn C k = true) : wPl C true (wOwn C k) = some (44032 + k) ∧ wOwn C k < cnt (wB C).flatten := by
  have h1 : (wB C).flatten[k]? = some true := by
    unfold wIn at h
    rcases hg : (wB C).flatten[k]? with _ | b
    · rw [hg] at h; cases h
    · rw [hg] at h
      obtain rfl : b = true := h
      rfl
  have h2 := pick_at (wB C) k (wB_28 C) h1
  refine ⟨?_, cnt_lt _ _ h1⟩
  unfold wPl
  rw [if_neg (by omega), Int.toNat_natCast]
  unfold wCh wG
  rw [if_pos rfl]
  unfold wOwn
  rw [h2]
  rfl
theorem wPl_out {C : Cst} (k : Nat) (hk : k < 11172) (h : wIn C k = false) : wPl C false ((k - wOwn C k : Nat) : Int) = some (44032 + k) := by
  have hl := wB_flat C
  have h1 : (wB C).flatten[k]? = some false := by
    unfold wIn at h
    rw [List.getElem?_eq_getElem (by omega)] at h ⊢
    exact congrArg some h
  have h2 : ((wB C).map (fun l => l.map (!·))).flatten[k]? = some true := by
    rw [map_not_flat, List.getElem?_map, h1]
    rfl
  have h3 : ∀ g ∈ (wB C).map (fun l => l.map (!·)), g.length = 28 := by
    intro g hg
    obtain ⟨l, hl, rfl⟩ := List.mem_map.1 hg
    rw [List.length_map]
    exact wB_28 C l hl
  have h4 := pick_at _ k h3 h2
  have h5 : cnt (((wB C).map (fun l => l.map (!·))).flatten.take k) = k - wOwn C k := by
    rw [map_not_flat, ← List.map_take]
    have := cnt_flip ((wB C).flatten.take k)
    rw [List.length_take, Nat.min_eq_left (by omega)] at this
    unfold wOwn
    omega
  rw [h5] at h4
  unfold wPl
  rw [if_neg (by omega), Int.toNat_natCast]
  unfold wCh wG
  rw [if_neg (by decide), h4]
  rfl
theorem bytesW_sign {C : Cst} (hC : CstOk C) (p c : Nat) (h : bytesW C p = some c) : c < 65536 ∧ 128 ≤ c / 256 ∧ signW C (c / 256) (c % 256) = some p := by
  unfold bytesW at h
  by_cases hp : 44032 ≤ p ∧ p ≤ 55203
  · rw [if_pos hp] at h
    obtain ⟨k, rfl⟩ : ∃ k, p = 44032 + k := ⟨p - 44032, by omega⟩
    have hk : k < 11172 := by omega
    rw [Nat.add_sub_cancel_left] at h
    clear hp
    by_cases hi : wIn C k = true
    · rw [if_pos hi] at h
      obtain ⟨h1, h2⟩ := wPl_in k hk hi
      rw [mem_cnt hC] at h2
      have h := Option.some.inj h
      have q1 : c / 256 = 161 + (wOwn C k + 1410) / 94 := by omega
      have q2 : c % 256 = 161 + (wOwn C k + 1410) % 94 := by omega
      refine ⟨by omega, by omega, ?_⟩
      unfold signW
      rw [if_neg (by omega), if_pos (by omega)]
      unfold rowW
      rw [if_neg (by omega), show (((c / 256 - 161 : Nat) : Int) * 94 + ((c % 256 - 161 : Nat) : Int) - 1410) = (wOwn C k : Int) by omega, h1]
    · have hi' : wIn C k = false := by simpa using hi
      rw [if_neg hi] at h
      have h1 := wPl_out k hk hi'
      have h2 := rest_max hC k (by omega)
      generalize k - wOwn C k = n at *
      by_cases hn : n < 5696
      · rw [if_pos hn] at h
        have h := Option.some.inj h
        have s1 := secW_in ((n % 178 : Nat) : Int) (by omega) (by omega)
        have s2 := numW_sec ((n % 178 : Nat) : Int) (by omega) (by omega)
        generalize secW ((n % 178 : Nat) : Int) = s at *
        have q1 : c / 256 = 129 + n / 178 := by omega
        have q2 : ((c % 256 : Nat) : Int) = s := by omega
        refine ⟨by omega, by omega, ?_⟩
        unfold signW
        rw [q2, s2, if_neg (by omega), if_neg (by omega), if_neg (by omega), if_pos (by omega), show (((c / 256 : Nat) : Int) - 129) * 178 + ((n % 178 : Nat) : Int) = (n : Int) by omega, h1]
      · rw [if_neg hn] at h
        have h := Option.some.inj h
        have s1 := secW_in (((n - 5696) % 84 : Nat) : Int) (by omega) (by omega)
        have s2 := numW_sec (((n - 5696) % 84 : Nat) : Int) (by omega) (by omega)
        have s3 : secW (((n - 5696) % 84 : Nat) : Int) < 161 := by
          unfold secW
          split
          · omega
          split <;> omega
        generalize secW (((n - 5696) % 84 : Nat) : Int) = s at *
        have q1 : c / 256 = 161 + (n - 5696) / 84 := by omega
        have q2 : ((c % 256 : Nat) : Int) = s := by omega
        refine ⟨by omega, by omega, ?_⟩
        unfold signW
        rw [q2, s2, if_neg (by omega), if_neg (by omega), if_neg (by omega), if_neg (by omega), show 5696 + (((c / 256 : Nat) : Int) - 161) * 84 + (((n - 5696) % 84 : Nat) : Int) = (n : Int) by omega, h1]
  · rw [if_neg hp] at h
    obtain ⟨h1, h2, h3, h4, h5⟩ := ocF_back hC p 6 161 c (by omega) (by omega) h
    refine ⟨by omega, by omega, ?_⟩
    unfold signW
    rw [if_neg (by omega), if_pos (by omega)]
    exact rowW_other c p h1 h2 h3 h4 h5
end Go.Proofs.YtffhmjlojmoomaaGreatDoor
