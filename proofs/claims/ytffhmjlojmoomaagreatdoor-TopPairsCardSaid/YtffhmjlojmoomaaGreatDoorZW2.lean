/- Layer 7 (wansung): counting bits, walked. | Layer 7 (wansung): the groups of members, and the choice of the k-th, walked. | Layer 7 (wansung): the choice of the k-th, walked. | Layer 7 (wansung): place, extra and rank, walked. -/
import Derived.Test.YtffhmjlojmoomaaGreatDoorZJ2
import Derived.Test.YtffhmjlojmoomaaGreatDoorZH1

namespace Go.Proofs.YtffhmjlojmoomaaGreatDoor
open Go.RowKit
set_option linter.unusedVariables false
set_option linter.unusedSimpArgs false

theorem u32_and_nat (a b : Nat) (ha : a < 4294967296) (hb : b < 4294967296) : bits .and .u32 (a : Int) (b : Int) = ((a &&& b : Nat) : Int) := by
  have h : a &&& b < 2 ^ 32 := Nat.and_lt_two_pow a (by simpa using hb)
  have e : (BitVec.ofInt IntKind.u32.bits (a : Int) &&& BitVec.ofInt IntKind.u32.bits (b : Int)).toNat = a &&& b := by
    rw [BitVec.toNat_and]
    show (BitVec.ofInt 32 (a : Int)).toNat &&& (BitVec.ofInt 32 (b : Int)).toNat = a &&& b
    rw [BitVec.toNat_ofInt, BitVec.toNat_ofInt]
    congr 1 <;> omega
  simp only [bits, e]
  simp only [IntKind.wrap, IntKind.bits, IntKind.signed]
  simp
  omega
theorem and255 (x : Nat) (h : x < 4294967296) : bits .and .u32 (x : Int) 255 = ((x % 256 : Nat) : Int) := by
  have h1 := u32_and_nat x 255 h (by decide)
  rw [show (255 : Nat) = 2 ^ 8 - 1 by rfl, Nat.and_two_pow_sub_one_eq_mod] at h1
  exact h1
theorem pop_at (l : List UInt8) (hl : l = (textsOf Tryz.f122).getD 0 []) (k : Nat) (h : k < l.length) : (l[k]'h).toNat = cnt (bitsOf 8 k) := by
  have hh : ∀ k : Fin 256, (((textsOf Tryz.f122).getD 0 [])[k.val]?).map UInt8.toNat = some (cnt (bitsOf 8 k.val)) := by decide +kernel
  have hlen : l.length = 256 := by rw [hl]; decide +kernel
  have := hh ⟨k, by omega⟩
  simp only at this
  rw [← hl, List.getElem?_eq_getElem h] at this
  simpa using this
theorem bitsOf_add : ∀ (a b n : Nat), bitsOf (a + b) n = bitsOf a n ++ bitsOf b (n / 2 ^ a)
  | 0, b, n => by rw [Nat.zero_add, Nat.pow_zero, Nat.div_one]; rfl
  | a + 1, b, n => by
    rw [show a + 1 + b = (a + b) + 1 by omega, bitsOf_succ, bitsOf_succ, bitsOf_add a b (n / 2), Nat.div_div_eq_div_mul, show 2 * 2 ^ a = 2 ^ (a + 1) by rw [Nat.pow_succ, Nat.mul_comm]]
    rfl
theorem pc_parts (n : Nat) : pc n = cnt (bitsOf 8 (n / 16777216)) + cnt (bitsOf 8 (n / 65536 % 256)) + cnt (bitsOf 8 (n / 256 % 256)) + cnt (bitsOf 8 (n % 256)) := by
  unfold pc
  rw [show 32 = 8 + (8 + (8 + 8)) by rfl, bitsOf_add, bitsOf_add, bitsOf_add, cnt_append, cnt_append, cnt_append, Nat.div_div_eq_div_mul, Nat.div_div_eq_div_mul]
  have e1 : bitsOf 8 (n % 256) = bitsOf 8 n := bits_cong (by omega)
  have e2 : bitsOf 8 (n / 256 % 256) = bitsOf 8 (n / 256) := bits_cong (by omega)
  have e3 : bitsOf 8 (n / 65536 % 256) = bitsOf 8 (n / 65536) := bits_cong (by omega)
  rw [e1, e2, e3]
  rw [show 2 ^ 8 * 2 ^ 8 * 2 ^ 8 = 16777216 by rfl, show 2 ^ 8 * 2 ^ 8 = 65536 by rfl, show 2 ^ 8 = 256 by rfl]
  omega
set_option maxHeartbeats 4000000 in
set_option maxRecDepth 100000 in
theorem ones_any (n : Nat) (hn : n < 4294967296) (w : World) : Calls Tryz.prog 122 #[.int .u32 n] w fun e w' => e = .returned (.int .i64 (pc n : Nat)) ∧ Below w.heap.size w w' := by
  obtain ⟨k0, hk0⟩ : ∃ k, k = n / 16777216 := ⟨_, rfl⟩
  obtain ⟨q1, hq1⟩ : ∃ k, k = n / 65536 := ⟨_, rfl⟩
  obtain ⟨q2, hq2⟩ : ∃ k, k = n / 256 := ⟨_, rfl⟩
  obtain ⟨k1, hk1⟩ : ∃ k, k = q1 % 256 := ⟨_, rfl⟩
  obtain ⟨k2, hk2⟩ : ∃ k, k = q2 % 256 := ⟨_, rfl⟩
  obtain ⟨k3, hk3⟩ : ∃ k, k = n % 256 := ⟨_, rfl⟩
  have a0 : (n : Int) / 16777216 = (k0 : Int) := by omega
  have a1 : (n : Int) / 65536 = (q1 : Int) := by omega
  have a2 : (n : Int) / 256 = (q2 : Int) := by omega
  have b1 : bits .and .u32 (q1 : Int) 255 = (k1 : Int) := by rw [and255 q1 (by omega), hk1]
  have b2 : bits .and .u32 (q2 : Int) 255 = (k2 : Int) := by rw [and255 q2 (by omega), hk2]
  have b3 : bits .and .u32 (n : Int) 255 = (k3 : Int) := by rw [and255 n hn, hk3]
  have l0 : k0 < 256 := by omega
  have l1 : k1 < 256 := by omega
  have l2 : k2 < 256 := by omega
  have l3 : k3 < 256 := by omega
  have HK : Hid (k0 = n / 16777216 ∧ k1 = n / 65536 % 256 ∧ k2 = n / 256 % 256 ∧ k3 = n % 256) := Lib.hid ⟨hk0, by rw [hk1, hq1], by rw [hk2, hq2], hk3⟩
  clear hk0 hk1 hk2 hk3 hq1 hq2
  go_enter Tryz.func122, Tryz.ntmps122
  go_upto_region 1 with (fail)
  generalize hL : (List.append (List.append _ _) (List.append _ _) : List UInt8) = L8
  have HL : Hid (L8 = (textsOf Tryz.f122).getD 0 []) := Lib.hid (by rw [← hL]; kernel_rfl)
  clear hL
  have hlen : L8.length = 256 := by rw [HL.out]; decide +kernel
  have m0 : k0 < L8.length := by omega
  have m1 : k1 < L8.length := by omega
  have m2 : k2 < L8.length := by omega
  have m3 : k3 < L8.length := by omega
  have i0 : (k0 : Int) < L8.length := by omega
  have i1 : (k1 : Int) < L8.length := by omega
  have i2 : (k2 : Int) < L8.length := by omega
  have i3 : (k3 : Int) < L8.length := by omega
  have HP := Lib.hid (pop_at L8 HL.out)
  have h0 := HP.out k0 m0
  have h1 := HP.out k1 m1
  have h2 := HP.out k2 m2
  have h3 := HP.out k3 m3
  have c0 := cnt_le (bitsOf 8 k0)
  have c1 := cnt_le (bitsOf 8 k1)
  have c2 := cnt_le (bitsOf 8 k2)
  have c3 := cnt_le (bitsOf 8 k3)
  rw [bitsOf_len] at c0 c1 c2 c3
  have HC : Hid (pc n = cnt (bitsOf 8 k0) + cnt (bitsOf 8 k1) + cnt (bitsOf 8 k2) + cnt (bitsOf 8 k3)) := Lib.hid (by rw [HK.out.1, HK.out.2.1, HK.out.2.2.1, HK.out.2.2.2]; exact pc_parts n)
  generalize cnt (bitsOf 8 k0) = x0 at *
  generalize cnt (bitsOf 8 k1) = x1 at *
  generalize cnt (bitsOf 8 k2) = x2 at *
  generalize cnt (bitsOf 8 k3) = x3 at *
  clear hlen
  go_quiet (fail)
  go_wp2
  go_ret
  exact ⟨ret_int (by rw [HC.out]; simp), belowN (Below.refl _ _) nq⟩
/-- the library's table for the lowest bit -/
def DeB (w : World) : Prop := ∀ t, t < 32 → w.cell? ⟨2, 2 ^ t * 125613361 % 4294967296 / 134217728, none⟩ = some (.int .u8 (t : Nat)) ∧ 2 < w.heap.size
theorem DeB.below {w w' : World} (h : DeB w) (hb : Below w.heap.size w w') : DeB w' := fun t ht => ⟨(hb.cell (p := ⟨2, _, none⟩) (h t ht).2).trans (h t ht).1, Nat.lt_of_lt_of_le (h t ht).2 hb.size⟩
set_option maxHeartbeats 4000000 in
set_option maxRecDepth 100000 in
theorem tz_any (l : List Bool) (hl : l.length ≤ 32) (hn : val l ≠ 0) (w : World) (hD : Hid (DeB w)) : Calls Tryz.prog 143 #[.int .u32 (val l : Nat)] w fun e w' => e = .returned (.int .i64 (low l : Nat)) ∧ w = w' := by
  have hv := val_lt l
  have hv2 : val l < 4294967296 := Nat.lt_of_lt_of_le hv (Nat.pow_le_pow_right (n := 2) (by omega) hl)
  have hlow : low l < 32 := by
    have h0 : cnt l ≠ 0 := fun e => hn ((val_zero l).2 e)
    have := low_lt l h0
    omega
  have e1 : IntKind.u32.wrap (-(val l : Int)) = ((4294967296 - val l : Nat) : Int) := by simp [IntKind.wrap, IntKind.bits, IntKind.signed]; omega
  have e2 : bits .and .u32 (val l : Int) ((4294967296 - val l : Nat) : Int) = ((2 ^ low l : Nat) : Int) := by
    rw [u32_and_nat _ _ hv2 (by omega)]
    have := and_neg l 32 hl hn
    rw [show (2 : Nat) ^ 32 = 4294967296 by rfl] at this
    rw [this]
  have e3 : IntKind.u32.wrap (((2 ^ low l : Nat) : Int) * 125613361) = ((2 ^ low l * 125613361 % 4294967296 : Nat) : Int) := by
    rw [show ((2 ^ low l : Nat) : Int) * 125613361 = ((2 ^ low l * 125613361 : Nat) : Int) by rw [Int.natCast_mul]; rfl]
    simp [IntKind.wrap, IntKind.bits, IntKind.signed]
  have hcell := (hD.out (low l) hlow).1
  have hz : ((val l : Int) == 0) = false := by rw [beq_eq_false_iff_ne]; omega
  have hidx : 2 ^ low l * 125613361 % 4294967296 / 134217728 < 32 := by omega
  generalize 4294967296 - val l = m at *
  generalize 2 ^ low l = q at *
  generalize q * 125613361 % 4294967296 = r at *
  have hni : (r : Int) / 134217728 = ((r / 134217728 : Nat) : Int) := by omega
  obtain ⟨x, hx⟩ : ∃ x, x = r / 134217728 := ⟨_, rfl⟩
  rw [← hx] at hcell hidx hni
  have hxi : (x : Int) < 32 := by omega
  have hlw : (low l : Int) < 32 := by omega
  clear hx hv hl hn
  generalize val l = n at *
  generalize low l = t at *
  go_enter Tryz.func143, Tryz.ntmps143
  go_wp2
  go_ret
  exact ⟨rfl, rfl⟩
end Go.Proofs.YtffhmjlojmoomaaGreatDoor

namespace Go.Proofs.YtffhmjlojmoomaaGreatDoor
open Go.RowKit
set_option linter.unusedVariables false
set_option linter.unusedSimpArgs false

def hxl (c : UInt8) : Nat := if 97 ≤ c.toNat then c.toNat - 87 else c.toNat - 48
def gfold (l : List UInt8) : Nat := l.foldl (fun n c => n * 16 + hxl c) 0
def grpN (M : List UInt8) (g : Nat) : Nat := gfold ((M.drop (7 * g)).take 7)
theorem gfold_snoc (l : List UInt8) (c : UInt8) : gfold (l ++ [c]) = gfold l * 16 + hxl c := by simp [gfold]
theorem gfold_from : ∀ (l : List UInt8) (a : Nat), (∀ c ∈ l, hxl c < 16) → l.foldl (fun n c => n * 16 + hxl c) a < (a + 1) * 16 ^ l.length
  | [], a, _ => by simp
  | c :: l, a, h => by
    have h1 := gfold_from l (a * 16 + hxl c) (fun d hd => h d (List.mem_cons_of_mem _ hd))
    have h2 := h c List.mem_cons_self
    rw [List.foldl_cons, List.length_cons, Nat.pow_succ]
    refine Nat.lt_of_lt_of_le h1 ?_
    rw [Nat.mul_comm (16 ^ l.length) 16, ← Nat.mul_assoc]
    exact Nat.mul_le_mul_right _ (by omega)
theorem gfold_lt (l : List UInt8) (h : ∀ c ∈ l, hxl c < 16) : gfold l < 16 ^ l.length := by
  have := gfold_from l 0 h
  rwa [Nat.zero_add, Nat.one_mul] at this
theorem u32_or_nat (a b : Nat) (ha : a < 4294967296) (hb : b < 4294967296) : bits .or .u32 (a : Int) (b : Int) = ((a ||| b : Nat) : Int) := by
  have h : a ||| b < 2 ^ 32 := Nat.or_lt_two_pow (by simpa using ha) (by simpa using hb)
  have e : (BitVec.ofInt IntKind.u32.bits (a : Int) ||| BitVec.ofInt IntKind.u32.bits (b : Int)).toNat = a ||| b := by
    rw [BitVec.toNat_or]
    show (BitVec.ofInt 32 (a : Int)).toNat ||| (BitVec.ofInt 32 (b : Int)).toNat = a ||| b
    rw [BitVec.toNat_ofInt, BitVec.toNat_ofInt]
    congr 1 <;> omega
  simp only [bits, e]
  simp only [IntKind.wrap, IntKind.bits, IntKind.signed]
  simp
  omega
theorem or16 (x d : Nat) (h : x < 268435456) (hd : d < 16) : bits BinOp.or IntKind.u32 ((x : Int) * 16) (d : Int) = (x : Int) * 16 + d := by
  have h1 := u32_or_nat (x * 16) d (by omega) (by omega)
  rw [nat_join 4 (x * 16) d (by omega) (by omega)] at h1
  simpa using h1
set_option maxHeartbeats 4000000 in
set_option maxRecDepth 100000 in
theorem group_any (C : Cst) (hC : Hid (CstOk C)) (g : Nat) (hg : g < 399) (w : World) : Calls Tryz.prog 123 #[.int .i64 g] w fun e w' => e = .returned (.int .u32 (grpN C.mem g : Nat)) ∧ w = w' := by
  have hl := hC.out.memL.1
  have HM := Lib.hid hC.out.memL.2
  have HE : Hid (textsOf Tryz.f123 = [C.mem]) := Lib.hid hC.out.memE
  have gi : (g : Int) < 399 := by omega
  go_enter Tryz.func123, Tryz.ntmps123
  go_upto_region 3 with (fail)
  generalize hL : (List.append _ _ : List UInt8) = M
  have HML : Hid (M = C.mem) := Lib.hid (by
    have h1 : M = (textsOf Tryz.f123).getD 0 [] := by rw [← hL]; decide +kernel
    rw [h1, HE.out]
    rfl)
  clear hL
  rw [HML.out]
  obtain ⟨L, hLe⟩ : ∃ L, L = C.mem := ⟨_, rfl⟩
  rw [← hLe] at hl HM HE HML
  rw [← hLe]
  have HLE := Lib.hid hLe
  clear hLe
  have HGL : Hid (∀ j, j ≤ 7 → ((L.drop (7 * g)).take j).length = j) := Lib.hid (fun j hj => by rw [List.length_take, List.length_drop]; omega)
  have HGV : Hid (∀ j, j ≤ 7 → gfold ((L.drop (7 * g)).take j) < 16 ^ j) := Lib.hid (fun j hj => by
    have h := gfold_lt ((L.drop (7 * g)).take j) (fun c hc => by
      have h1 := HM.out c (List.mem_of_mem_drop (List.mem_of_mem_take hc))
      unfold hxl
      split <;> omega)
    rwa [HGL.out j hj] at h)
  have HLl := Lib.hid hl
  clear hl
  go_loopw [3, 4] (fun n i wr => ∃ j : Nat, j ≤ 7 ∧ i = .int .i64 ((7 * g + j : Nat) : Int) ∧ n = .int .u32 (gfold ((L.drop (7 * g)).take j) : Nat) ∧ w = wr) (fun _ i _ => 7 * g + 7 - (intOf i).toNat)
  case atStart => exact ⟨0, by omega, by simp; omega, rfl, rfl⟩
  case round =>
    obtain ⟨j, hj, rfl, rfl, rfl⟩ := hrel
    obtain ⟨q, hq⟩ : ∃ q, q = 7 * g + j := ⟨_, rfl⟩
    rw [← hq]
    have HV := HGV.out j hj
    by_cases hlt : j < 7
    · have g0 : (q : Int) < ((g : Int) + 1) * 7 := by omega
      have hql : q < L.length := by have := HLl.out; omega
      have hqi : (q : Int) < L.length := by omega
      have HT : Hid ((L.drop (7 * g)).take (j + 1) = (L.drop (7 * g)).take j ++ [L[q]]) := Lib.hid (by
        rw [List.take_succ_eq_append_getElem (by rw [List.length_drop]; have := HLl.out; omega), List.getElem_drop]
        simp only [hq])
      have hin := HM.out L[q] (List.getElem_mem hql)
      have HX : Hid (gfold ((L.drop (7 * g)).take (j + 1)) = gfold ((L.drop (7 * g)).take j) * 16 + hxl L[q]) := Lib.hid (by rw [HT.out, gfold_snoc])
      have hv6 : gfold ((L.drop (7 * g)).take j) < 16777216 := Nat.lt_of_lt_of_le HV (by
        have : (16 : Nat) ^ j ≤ 16 ^ 6 := Nat.pow_le_pow_right (by omega) (by omega)
        omega)
      generalize gfold ((L.drop (7 * g)).take j) = x at *
      have HQ := Lib.hid hq
      clear HV hq
      obtain ⟨d, hd⟩ : ∃ d, d = hxl L[q] := ⟨_, rfl⟩
      rw [← hd] at HX
      have hd16 : d < 16 := by rw [hd]; unfold hxl; split <;> omega
      have ho := or16 x d (by omega) hd16
      have hv7 : (x : Int) ≤ 16777215 := by omega
      have hd17 : (d : Int) ≤ 15 := by omega
      clear hv6
      rcases hin with hin | hin
      · have h97 : ¬ (97 : Int) ≤ L[q].toNat := by omega
        have hw1 : (L[q].toNat : Int) - 48 = (d : Int) := by rw [hd]; unfold hxl; rw [if_neg (by omega)]; omega
        clear hd hin
        go_wp2
        exact ⟨⟨j + 1, by omega, by rw [HQ.out]; simp; omega, by rw [HX.out]; simp, trivial⟩, by have := HQ.out; simp [intOf]; omega⟩
      · have h97 : (97 : Int) ≤ L[q].toNat := by omega
        have h99 : (L[q].toNat : Int) ≤ 102 := by omega
        obtain ⟨m, hm⟩ : ∃ m, m = L[q].toNat - 39 := ⟨_, rfl⟩
        have hw1 : (L[q].toNat : Int) - 39 = (m : Int) := by omega
        have hm9 : (m : Int) ≤ 63 ∧ (58 : Int) ≤ m := by omega
        have hw2 : (m : Int) - 48 = (d : Int) := by rw [hd]; unfold hxl; rw [if_pos (by omega)]; omega
        obtain ⟨hm8, hm7⟩ := hm9
        clear hd hin hm
        go_wp2
        exact ⟨⟨j + 1, by omega, by rw [HQ.out]; simp; omega, by rw [HX.out]; simp, trivial⟩, by have := HQ.out; simp [intOf]; omega⟩
    · have g0 : ¬ (q : Int) < ((g : Int) + 1) * 7 := by omega
      have hj7 : j = 7 := by omega
      subst hj7
      clear hq
      have HGR : Hid (gfold ((L.drop (7 * g)).take 7) = grpN C.mem g) := Lib.hid (by rw [HLE.out]; rfl)
      rw [HGR.out]
      clear HV
      go_wp2
      go_ret
      exact ⟨rfl, rfl⟩
end Go.Proofs.YtffhmjlojmoomaaGreatDoor

namespace Go.Proofs.YtffhmjlojmoomaaGreatDoor
open Go.RowKit
set_option linter.unusedVariables false
set_option linter.unusedSimpArgs false

/-- which syllables are in the rows, in groups -/
def wB (C : Cst) : List (List Bool) := (List.range 399).map (fun g => bitsOf 28 (grpN C.mem g))
def wG (C : Cst) (within : Bool) : List (List Bool) := if within = true then wB C else (wB C).map (fun l => l.map (!·))
def wCh (C : Cst) (within : Bool) (k : Nat) : Option Nat := (pick (wG C within) k).map (44032 + ·)
theorem wB_len (C : Cst) : (wB C).length = 399 := by simp [wB]
theorem wG_len (C : Cst) (b : Bool) : (wG C b).length = 399 := by unfold wG; split <;> simp [wB_len]
theorem wB_get (C : Cst) (g : Nat) (hg : g < (wB C).length) : (wB C)[g] = bitsOf 28 (grpN C.mem g) := by simp [wB]
theorem wG_get (C : Cst) (b : Bool) (g : Nat) (hg : g < (wG C b).length) : (wG C b)[g] = bitsOf 28 (if b = true then grpN C.mem g else grpN C.mem g ^^^ 268435455) := by
  rcases b with _ | _
  · simp only [wG, Bool.false_eq_true, if_false, List.getElem_map]
    rw [wB_get, bitsOf_flip]
  · simp only [wG, if_true]
    exact wB_get C g _
theorem grp_lt {C : Cst} (hC : CstOk C) (g : Nat) (hg : g < 399) : grpN C.mem g < 268435456 := by
  have h := gfold_lt ((C.mem.drop (7 * g)).take 7) (fun c hc => by
    have h1 := hC.memL.2 c (List.mem_of_mem_drop (List.mem_of_mem_take hc))
    unfold hxl
    split <;> omega)
  have hl := hC.memL.1
  rw [List.length_take, List.length_drop, show min 7 (C.mem.length - 7 * g) = 7 by omega] at h
  exact h
theorem u32_xor_nat (a b : Nat) (ha : a < 4294967296) (hb : b < 4294967296) : bits .xor .u32 (a : Int) (b : Int) = ((a ^^^ b : Nat) : Int) := by
  have h : a ^^^ b < 2 ^ 32 := Nat.xor_lt_two_pow (by simpa using ha) (by simpa using hb)
  have e : (BitVec.ofInt IntKind.u32.bits (a : Int) ^^^ BitVec.ofInt IntKind.u32.bits (b : Int)).toNat = a ^^^ b := by
    rw [BitVec.toNat_xor]
    show (BitVec.ofInt 32 (a : Int)).toNat ^^^ (BitVec.ofInt 32 (b : Int)).toNat = a ^^^ b
    rw [BitVec.toNat_ofInt, BitVec.toNat_ofInt]
    congr 1 <;> omega
  simp only [bits, e]
  simp only [IntKind.wrap, IntKind.bits, IntKind.signed]
  simp
  omega
theorem val28 {n : Nat} (h : n < 268435456) : val (bitsOf 28 n) = n := by
  rw [val_bits, show 2 ^ 28 = 268435456 by rfl]
  exact Nat.mod_eq_of_lt h
theorem cnt_clrs : ∀ (k : Nat) (l : List Bool), cnt (clrs k l) = cnt l - k
  | 0, l => rfl
  | k + 1, l => by
    show cnt (clrs k (clr l)) = _
    rw [cnt_clrs k (clr l), cnt_clr]
    omega
theorem clrs_len : ∀ (k : Nat) (l : List Bool), (clrs k l).length = l.length
  | 0, l => rfl
  | k + 1, l => by
    show (clrs k (clr l)).length = _
    rw [clrs_len k (clr l), clr_len]
theorem clrs_succ : ∀ (k : Nat) (l : List Bool), clrs (k + 1) l = clr (clrs k l)
  | 0, l => rfl
  | k + 1, l => by
    show clrs (k + 1) (clr l) = clr (clrs k (clr l))
    exact clrs_succ k (clr l)
set_option maxHeartbeats 4000000 in
set_option maxRecDepth 100000 in
theorem choose_neg (k : Int) (b : Bool) (hk : k < 0) (w : World) : Calls Tryz.prog 121 #[.int .i64 k, .bool b] w fun e w' => e = .returned (.tuple #[.int .i32 0, .bool false]) ∧ w = w' := by
  go_enter Tryz.func121, Tryz.ntmps121
  go_wp2
  go_ret2
  exact ⟨rfl, rfl⟩
set_option maxHeartbeats 4000000 in
set_option maxRecDepth 100000 in
theorem choose_any (C : Cst) (hC : Hid (CstOk C)) (k : Nat) (b : Bool) (hk : (k : Int) ≤ 1000000) (w : World) (hD : Hid (DeB w)) : Calls Tryz.prog 121 #[.int .i64 k, .bool b] w fun e w' => e = .returned (.tuple #[.int .i32 ((wCh C b k).getD 0 : Nat), .bool (wCh C b k).isSome]) ∧ Below w.heap.size w w' := by
  have k0 : ¬ (k : Int) < 0 := by omega
  go_enter Tryz.func121, Tryz.ntmps121
  go_wp2
  go_loopw [0, 6] (fun x i wr => ∃ j q : Nat, j ≤ 399 ∧ i = .int .i64 j ∧ x = .int .i64 q ∧ (q : Int) ≤ 1000000 ∧ Hid (pick (wG C b) k = (pick ((wG C b).drop j) q).map (28 * j + ·)) ∧ Hid (Below w.heap.size w wr)) (fun _ i _ => 399 - (intOf i).toNat)
  case atStart => exact ⟨0, k, by omega, rfl, rfl, hk, Lib.hid (by rw [List.drop_zero]; simp), Lib.hid (Below.refl _ _)⟩
  case round =>
    obtain ⟨j, q, hj, rfl, rfl, hq, HE, K⟩ := hrel
    by_cases hlt : j < 399
    · have g0 : (j : Int) < 399 := by omega
      have hjl : j < (wG C b).length := by rw [wG_len]; exact hlt
      have GR := Lib.hid (fun w => group_any C hC j hlt w)
      have hgl := grp_lt hC.out j hlt
      have HDR : Hid ((wG C b).drop j = (wG C b)[j] :: (wG C b).drop (j + 1)) := Lib.hid (List.drop_eq_getElem_cons hjl)
      have HGJ := Lib.hid (wG_get C b j hjl)
      obtain ⟨m, hm⟩ : ∃ m, m = if b = true then grpN C.mem j else grpN C.mem j ^^^ 268435455 := ⟨_, rfl⟩
      rw [← hm] at HGJ
      have hm9 : m < 268435456 := by
        rw [hm]
        split
        · exact hgl
        · exact Nat.xor_lt_two_pow (n := 28) hgl (by decide)
      have HMX : Hid (b = false → bits .xor .u32 ((grpN C.mem j : Nat) : Int) 268435455 = (m : Int)) := Lib.hid (fun hb => (u32_xor_nat (grpN C.mem j) 268435455 (by omega) (by decide)).trans (by rw [hm, if_neg (by simp [hb])]))
      have HMS : Hid (b = true → grpN C.mem j = m) := Lib.hid (fun hb => by rw [hm, if_pos hb])
      have HV : Hid (val (bitsOf 28 m) = m) := Lib.hid (val28 hm9)
      have OC := Lib.hid (fun w => ones_any m (by omega) w)
      have HPC : Hid (pc m = cnt (bitsOf 28 m)) := Lib.hid (pc_of 28 m (by simpa using hm9) (by omega))
      have hmi : (m : Int) ≤ 268435455 := by omega
      clear hgl hm hm9
      generalize (wG C b)[j] = bl at *
      generalize grpN C.mem j = gn at *
      have HLB : Hid (bl.length = 28) := Lib.hid (by rw [HGJ.out, bitsOf_len])
      have HVB : Hid (val bl = m) := Lib.hid (by rw [HGJ.out, HV.out])
      have HPB : Hid (pc m = cnt bl) := Lib.hid (by rw [HPC.out, HGJ.out])
      have hcb : cnt bl ≤ 28 := by have := cnt_le bl; have := HLB.out; omega
      rw [HPB.out] at OC
      clear HGJ HV HPC HPB
      have HX1 : Hid (b = false → bits .xor .u32 ((gn : Nat) : Int) 268435455 = (m : Int)) := HMX
      clear hmi HMX hjl
      obtain ⟨cb, hcb2⟩ : ∃ cb, cb = cnt bl := ⟨_, rfl⟩
      rw [← hcb2] at OC hcb
      have HCB := Lib.hid hcb2
      clear hcb2
      have hci : (cb : Int) ≤ 28 := by omega
      have HE2 : Hid (cb ≤ q → pick (wG C b) k = (pick ((wG C b).drop (j + 1)) (q - cb)).map (28 * (j + 1) + ·)) := Lib.hid (fun hqc => by
        rw [HE.out, HDR.out, pick, if_pos (by rw [← HCB.out]; exact hqc), ← HCB.out, Option.map_map]
        congr 1
        funext x
        show 28 * j + (28 + x) = 28 * (j + 1) + x
        omega)
      have HR : Hid (¬ cb ≤ q → wCh C b k = some (44032 + (28 * j + kth bl q))) := Lib.hid (fun hqc => by
        unfold wCh
        rw [HE.out, HDR.out, pick, if_neg (by rw [← HCB.out]; exact hqc)]
        rfl)
      clear HE HDR
      rcases b with _ | _
      all_goals go_upto_region 9 with (go_at_call 123; (with_reducible refine (GR.out _).mono ?_); rintro e wx ⟨rfl, rfl⟩)
      all_goals first | rw [HX1.out trivial] | rw [HMS.out trivial]
      all_goals clear GR HX1 HMS
      all_goals
        by_cases hqc : cb ≤ q
        · have g1 : (cb : Int) ≤ q := by omega
          have hsub : (q : Int) - cb = ((q - cb : Nat) : Int) := by omega
          go_wp2_with (go_at_call 122; (with_reducible refine (OC.out _).mono ?_); rintro e w2 ⟨rfl, hb2⟩; replace K := Lib.hid (nextB K.out hb2); clear hb2)
          refine ⟨⟨j + 1, q - cb, ?_, ?_, ?_, ?_, Lib.hid (HE2.out hqc), K⟩, ?_⟩
          · exact hlt
          · rfl
          · rfl
          · clear HE2 HR OC; omega
          · clear HE2 HR OC; simp only [intOf]; omega
        · have g1 : ¬ (cb : Int) ≤ q := by omega
          have hq28 : q < 28 := by omega
          go_wp2_with (go_at_call 122; (with_reducible refine (OC.out _).mono ?_); rintro e w2 ⟨rfl, hb2⟩; replace K := Lib.hid (nextB K.out hb2); clear hb2)
          go_loopw [0, 7] (fun x n wr => ∃ t : Nat, t ≤ q ∧ x = .int .i64 ((q - t : Nat) : Int) ∧ n = .int .u32 (val (clrs t bl) : Nat) ∧ w2 = wr) (fun x _ _ => (intOf x).toNat)
          case atStart => exact ⟨0, by omega, rfl, by rw [← HVB.out]; rfl, rfl⟩
          case round =>
            obtain ⟨t, ht, rfl, rfl, rfl⟩ := hrel
            have hlen := clrs_len t bl
            have hvl := val_lt (clrs t bl)
            rw [hlen, HLB.out] at hvl
            have hcl := cnt_clrs t bl
            have hnz : val (clrs t bl) ≠ 0 := fun e => by
              have := (val_zero _).1 e
              have := HCB.out
              omega
            by_cases hqt : t < q
            · obtain ⟨x, hx⟩ : ∃ x, x = q - t := ⟨_, rfl⟩
              rw [← hx]
              have g2 : (0 : Int) < x := by omega
              have hap := and_pred _ hnz
              rw [← clrs_succ] at hap
              obtain ⟨v, hv⟩ : ∃ v, v = val (clrs t bl) := ⟨_, rfl⟩
              rw [← hv] at hvl hnz hap
              rw [← hv]
              obtain ⟨u, hu⟩ : ∃ u, u = v - 1 := ⟨_, rfl⟩
              rw [← hu] at hap
              have e1 : (v : Int) - 1 = (u : Int) := by omega
              have e2 : bits .and .u32 (v : Int) (u : Int) = (val (clrs (t + 1) bl) : Int) := by rw [u32_and_nat v u (by omega) (by omega), hap]
              have hv1 : (1 : Int) ≤ v := by omega
              have hv9 : (v : Int) ≤ 268435455 := by omega
              have hx1 : (x : Int) ≤ 28 := by omega
              generalize hvv : val (clrs (t + 1) bl) = v2 at *
              have HX := Lib.hid hx
              have HVV := Lib.hid hvv
              clear hx hvv hv hap hnz hvl hlen hcl hu
              go_wp2
              exact ⟨⟨t + 1, by omega, by have := HX.out; simp; omega, by rw [HVV.out], trivial⟩, by have := HX.out; simp [intOf]; omega⟩
            · have htq : t = q := by omega
              subst htq
              have hx0 : t - t = 0 := by omega
              rw [hx0]
              have TZ := Lib.hid (tz_any (clrs t bl) (by rw [hlen, HLB.out]; decide) hnz)
              have hlw := kth_low t bl (by rw [← HCB.out]; omega)
              rw [hlw] at TZ
              have HDW := Lib.hid (hD.out.below K.out)
              have hkl : kth bl t < 28 := by
                rw [← hlw]
                have h0 : cnt (clrs t bl) ≠ 0 := fun e => hnz ((val_zero _).2 e)
                have := low_lt _ h0
                rw [hlen, HLB.out] at this
                exact this
              have hkl2 : (kth bl t : Int) ≤ 27 := by omega
              generalize val (clrs t bl) = v at *
              generalize kth bl t = y at *
              clear hlen hvl hcl hnz hlw hkl hx0
              go_wp2_with (go_at_call 143; (with_reducible refine (TZ.out _ HDW).mono ?_); rintro e wx ⟨rfl, rfl⟩)
              go_ret2
              rw [HR.out hqc]
              refine ⟨?_, K.out⟩
              show Ending.returned (.tuple #[.int .i32 (44032 + (j : Int) * 28 + (y : Int)), .bool true]) = Ending.returned (.tuple #[.int .i32 ((44032 + (28 * j + y) : Nat) : Int), .bool true])
              have e9 : (44032 + (j : Int) * 28 + (y : Int)) = ((44032 + (28 * j + y) : Nat) : Int) := by omega
              rw [e9]
    · have g0 : ¬ (j : Int) < 399 := by omega
      have HN : Hid (wCh C b k = none) := Lib.hid (by unfold wCh; rw [HE.out, List.drop_eq_nil_of_le (by rw [wG_len]; omega)]; rfl)
      clear HE
      go_wp2
      go_ret2
      rw [HN.out]
      exact ⟨rfl, K.out⟩
end Go.Proofs.YtffhmjlojmoomaaGreatDoor

namespace Go.Proofs.YtffhmjlojmoomaaGreatDoor
open Go.RowKit
set_option linter.unusedVariables false
set_option linter.unusedSimpArgs false

theorem grp_take : ∀ (q r : Nat) (G : List (List Bool)), (∀ g ∈ G, g.length = 28) → r < 28 → q < G.length → G.flatten.take (28 * q + r) = (G.take q).flatten ++ ((G[q]?).getD []).take r
  | 0, r, g :: G, hG, hr, _ => by
    have h := hG g (by simp)
    rw [List.flatten_cons, List.take_append_of_le_length (by omega)]
    simp
  | q + 1, r, g :: G, hG, hr, hq => by
    have h := hG g (by simp)
    have e : 28 * (q + 1) + r = g.length + (28 * q + r) := by omega
    rw [List.flatten_cons, e, List.take_append, List.take_of_length_le (by omega), show g.length + (28 * q + r) - g.length = 28 * q + r by omega, grp_take q r G (fun x hx => hG x (by simp [hx])) hr (by simp at hq; omega)]
    simp
theorem grp_get : ∀ (q r : Nat) (G : List (List Bool)), (∀ g ∈ G, g.length = 28) → r < 28 → q < G.length → G.flatten[28 * q + r]? = ((G[q]?).getD [])[r]?
  | 0, r, g :: G, hG, hr, _ => by
    have h := hG g (by simp)
    rw [List.flatten_cons, List.getElem?_append_left (by omega)]
    simp
  | q + 1, r, g :: G, hG, hr, hq => by
    have h := hG g (by simp)
    have e : 28 * (q + 1) + r = g.length + (28 * q + r) := by omega
    rw [List.flatten_cons, e, List.getElem?_append_right (by omega), show g.length + (28 * q + r) - g.length = 28 * q + r by omega, grp_get q r G (fun x hx => hG x (by simp [hx])) hr (by simp at hq; omega)]
    simp
def wOwn (C : Cst) (k : Nat) : Nat := cnt ((wB C).flatten.take k)
def wIn (C : Cst) (k : Nat) : Bool := ((wB C).flatten[k]?).getD false
theorem wB_28 (C : Cst) : ∀ g ∈ wB C, g.length = 28 := by
  intro g hg
  simp only [wB, List.mem_map, List.mem_range] at hg
  obtain ⟨i, _, rfl⟩ := hg
  exact bitsOf_len _ _
theorem wB_get? (C : Cst) (q : Nat) (hq : q < 399) : (wB C)[q]? = some (bitsOf 28 (grpN C.mem q)) := by
  rw [List.getElem?_eq_getElem (by rw [wB_len]; exact hq), wB_get]
def ownTo (C : Cst) (j : Nat) : Nat := cnt ((wB C).take j).flatten
theorem ownTo_succ {C : Cst} (hC : CstOk C) (j : Nat) (hj : j < 399) : ownTo C (j + 1) = ownTo C j + pc (grpN C.mem j) := by
  unfold ownTo
  rw [List.take_add_one, wB_get? C j hj, List.flatten_append, cnt_append, pc_of 28 _ (by simpa using grp_lt hC j hj) (by omega)]
  simp
theorem ownTo_le {C : Cst} (hC : CstOk C) : ∀ (j : Nat), j ≤ 399 → ownTo C j ≤ 28 * j
  | 0, _ => by simp [ownTo, cnt]
  | j + 1, h => by
    have ih := ownTo_le hC j (by omega)
    rw [ownTo_succ hC j (by omega), pc_of 28 _ (by simpa using grp_lt hC j (by omega)) (by omega)]
    have := cnt_le (bitsOf 28 (grpN C.mem j))
    rw [bitsOf_len] at this
    omega
theorem own_parts {C : Cst} (hC : CstOk C) (q r : Nat) (hq : q < 399) (hr : r < 28) : wOwn C (28 * q + r) = ownTo C q + pc (grpN C.mem q &&& (2 ^ r - 1)) := by
  unfold wOwn ownTo
  have hm : grpN C.mem q % 2 ^ r < 2 ^ r := Nat.mod_lt _ (Nat.two_pow_pos r)
  rw [grp_take q r _ (wB_28 C) hr (by rw [wB_len]; exact hq), cnt_append, wB_get? C q hq, Nat.and_two_pow_sub_one_eq_mod, pc_of r _ hm (by omega)]
  congr 1
  simp only [Option.getD_some]
  rw [bitsOf_take _ _ _ (by omega)]
  exact congrArg cnt (bits_cong (by rw [Nat.mod_mod]))
theorem and_pow (n r : Nat) : n &&& 2 ^ r = if n.testBit r = true then 2 ^ r else 0 := by
  apply Nat.eq_of_testBit_eq
  intro j
  rw [Nat.testBit_and, Nat.testBit_two_pow]
  by_cases h : r = j
  · subst h
    rcases hb : n.testBit r with _ | _ <;> simp [hb]
  · rw [decide_eq_false h, Bool.and_false]
    split
    · rw [Nat.testBit_two_pow, decide_eq_false h]
    · simp
theorem in_parts {C : Cst} (hC : CstOk C) (q r : Nat) (hq : q < 399) (hr : r < 28) : grpN C.mem q &&& 2 ^ r = if wIn C (28 * q + r) = true then 2 ^ r else 0 := by
  unfold wIn
  rw [grp_get q r _ (wB_28 C) hr (by rw [wB_len]; exact hq), wB_get? C q hq, and_pow]
  simp only [Option.getD_some]
  simp only [bitsOf_get _ _ _ hr, Option.getD_some]
theorem own_le (C : Cst) (k : Nat) : wOwn C k ≤ k := by
  unfold wOwn
  have := cnt_le ((wB C).flatten.take k)
  have := List.length_take_le k (wB C).flatten
  omega

def wPl (C : Cst) (within : Bool) (k : Int) : Option Nat := if k < 0 then none else wCh C within k.toNat
set_option maxHeartbeats 4000000 in
set_option maxRecDepth 100000 in
theorem choose_all (C : Cst) (hC : Hid (CstOk C)) (k : Int) (b : Bool) (hk : k ≤ 1000000) (w : World) (hD : Hid (DeB w)) : Calls Tryz.prog 121 #[.int .i64 k, .bool b] w fun e w' => e = .returned (.tuple #[.int .i32 ((wPl C b k).getD 0 : Nat), .bool (wPl C b k).isSome]) ∧ Below w.heap.size w w' := by
  by_cases h : k < 0
  · refine (choose_neg k b h w).mono ?_
    rintro e w' ⟨rfl, rfl⟩
    unfold wPl
    rw [if_pos h]
    exact ⟨rfl, Below.refl _ _⟩
  · obtain ⟨n, rfl⟩ : ∃ n : Nat, k = n := ⟨k.toNat, by omega⟩
    unfold wPl
    rw [if_neg h]
    exact choose_any C hC n b hk w hD
set_option maxHeartbeats 4000000 in
set_option maxRecDepth 100000 in
theorem wplace_any (C : Cst) (hC : Hid (CstOk C)) (k : Int) (hk : k ≤ 1000000) (w : World) (hD : Hid (DeB w)) : Calls Tryz.prog 119 #[.int .i64 k] w fun e w' => e = .returned (.tuple #[.int .i32 ((wPl C true k).getD 0 : Nat), .bool (wPl C true k).isSome]) ∧ Below w.heap.size w w' := by
  have CH := Lib.hid (choose_all C hC k true hk w hD)
  go_enter Tryz.func119, Tryz.ntmps119
  go_wp2_with (go_at_call 121; (with_reducible refine CH.out.mono ?_); rintro e w2 ⟨rfl, hb2⟩)
  go_ret2
  exact ⟨rfl, hb2⟩
set_option maxHeartbeats 4000000 in
set_option maxRecDepth 100000 in
theorem wextra_any (C : Cst) (hC : Hid (CstOk C)) (k : Int) (hk : k ≤ 1000000) (w : World) (hD : Hid (DeB w)) : Calls Tryz.prog 85 #[.int .i64 k] w fun e w' => e = .returned (.tuple #[.int .i32 ((wPl C false k).getD 0 : Nat), .bool (wPl C false k).isSome]) ∧ Below w.heap.size w w' := by
  have CH := Lib.hid (choose_all C hC k false hk w hD)
  go_enter Tryz.func85, Tryz.ntmps85
  go_wp2_with (go_at_call 121; (with_reducible refine CH.out.mono ?_); rintro e w2 ⟨rfl, hb2⟩)
  go_ret2
  exact ⟨rfl, hb2⟩
end Go.Proofs.YtffhmjlojmoomaaGreatDoor
