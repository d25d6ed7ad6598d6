/- Layer 8 (big5): numbers of second bytes, lists, codes, walked. -/
import Derived.Test.YtffhmjlojmoomaaGreatDoorZW6
import Derived.Test.YtffhmjlojmoomaaGreatDoorZJ2

namespace Go.Proofs.YtffhmjlojmoomaaGreatDoor
open Go.RowKit
set_option linter.unusedVariables false
set_option linter.unusedSimpArgs false

def cellB (x : Int) : Int := if 64 ≤ x ∧ x ≤ 126 then x - 64 else if 161 ≤ x ∧ x ≤ 254 then x - 161 + 63 else -1
def secB (n : Int) : Int := if n < 63 then 64 + n else 161 + n - 63
set_option maxHeartbeats 4000000 in
set_option maxRecDepth 100000 in
theorem bcell_any (x : Int) (h0 : 0 ≤ x) (h1 : x ≤ 255) (w : World) : Calls Tryz.prog 66 #[.int .i64 x] w fun e w' => e = .returned (.int .i64 (cellB x)) ∧ w = w' := by
  unfold cellB
  go_enter Tryz.func66, Tryz.ntmps66
  by_cases a1 : 64 ≤ x
  · by_cases a2 : x ≤ 126
    · rw [if_pos ⟨a1, a2⟩]
      go_wp2
      all_goals go_ret
      all_goals exact ⟨rfl, rfl⟩
    · rw [if_neg (fun h => a2 h.2)]
      by_cases a3 : 161 ≤ x
      · by_cases a4 : x ≤ 254
        · rw [if_pos ⟨a3, a4⟩]
          go_wp2
          all_goals go_ret
          all_goals exact ⟨rfl, rfl⟩
        · rw [if_neg (fun h => a4 h.2)]
          go_wp2
          all_goals go_ret
          all_goals exact ⟨rfl, rfl⟩
      · rw [if_neg (fun h => a3 h.1)]
        go_wp2
        all_goals go_ret
        all_goals exact ⟨rfl, rfl⟩
  · rw [if_neg (fun h => a1 h.1), if_neg (fun h => a1 (by omega))]
    have a3 : ¬ 161 ≤ x := by omega
    go_wp2
    all_goals go_ret
    all_goals exact ⟨rfl, rfl⟩
set_option maxHeartbeats 4000000 in
set_option maxRecDepth 100000 in
theorem bsecond_any (n : Int) (h0 : 0 ≤ n) (h1 : n ≤ 5000) (w : World) : Calls Tryz.prog 65 #[.int .i64 n] w fun e w' => e = .returned (.int .i64 (secB n)) ∧ w = w' := by
  unfold secB
  go_enter Tryz.func65, Tryz.ntmps65
  by_cases a1 : n < 63
  · rw [if_pos a1]
    go_wp2
    all_goals go_ret
    all_goals exact ⟨rfl, rfl⟩
  · rw [if_neg a1]
    go_wp2
    all_goals go_ret
    all_goals exact ⟨rfl, rfl⟩
set_option maxHeartbeats 4000000 in
set_option maxRecDepth 100000 in
theorem bcode_any (a b : Int) (a0 : 0 ≤ a) (a9 : a < 256) (b0 : 0 ≤ b) (b9 : b < 256) (w : World) : Calls Tryz.prog 91 #[.int .i64 a, .int .i64 b] w fun e w' => e = .returned (.string ⟨(bigL (a * 256 + b).toNat 2).toArray⟩) ∧ Below w.heap.size w w' := by
  have ho := or_byte_int a b a0 a9 b0 b9
  obtain ⟨c, hc⟩ : ∃ c, c = a * 256 + b := ⟨_, rfl⟩
  rw [← hc] at ho ⊢
  have BG := Lib.hid (fun w => big2_any c (by omega) (by omega) w)
  have c0 : 0 ≤ c := by omega
  have c9 : c < 65536 := by omega
  clear hc
  go_enter Tryz.func91, Tryz.ntmps91
  go_wp2_with (go_at_call 81; (with_reducible refine (BG.out _).mono ?_); rintro e w2 ⟨rfl, hb2⟩)
  go_ret
  exact ⟨rfl, hb2⟩
set_option maxHeartbeats 4000000 in
set_option maxRecDepth 100000 in
theorem bat_no (ns : List Nat) (hn : ns.length ≤ 1000) (k : Int) (hk : k < 0 ∨ (ns.length : Int) ≤ k) (h0 : -100000 ≤ k) (h1 : k ≤ 100000) (w : World) : Calls Tryz.prog 64 #[.string ⟨(listT ns).toArray⟩, .int .i64 k] w fun e w' => e = .returned (.tuple #[.int .i32 0, .bool false]) ∧ w = w' := by
  have hl := listT_len ns
  generalize listT ns = t at *
  obtain ⟨m, hm⟩ : ∃ m : Nat, m = ns.length := ⟨_, rfl⟩
  rw [← hm] at hl hn hk
  have e1 : (t.length : Int) / 5 = (m : Int) := by omega
  have e2 : (t.length : Int) ≤ 5000 := by omega
  clear hm hl
  go_enter Tryz.func64, Tryz.ntmps64
  by_cases h : k < 0
  · go_wp2
    all_goals go_ret2
    all_goals exact ⟨rfl, rfl⟩
  · have h2 : (m : Int) ≤ k := by omega
    go_wp2
    all_goals go_ret2
    all_goals exact ⟨rfl, rfl⟩
set_option maxHeartbeats 4000000 in
set_option maxRecDepth 100000 in
theorem bat_in (ns : List Nat) (hn : ns.length ≤ 1000) (hs : Hid (∀ n ∈ ns, n < 65536)) (k : Nat) (hk : k < ns.length) (w : World) : Calls Tryz.prog 64 #[.string ⟨(listT ns).toArray⟩, .int .i64 k] w fun e w' => e = .returned (.tuple #[.int .i32 (ns[k] : Nat), .bool true]) ∧ w = w' := by
  have hl := listT_len ns
  have HG := Lib.hid (fun j hj => listT_get ns k j hk hj)
  have hn6 := hs.out ns[k] (List.getElem_mem hk)
  generalize ns[k] = n at *
  generalize listT ns = t at *
  obtain ⟨m, hm⟩ : ∃ m : Nat, m = ns.length := ⟨_, rfl⟩
  rw [← hm] at hl hn hk
  have e1 : (t.length : Int) / 5 = (m : Int) := by omega
  have e2 : (t.length : Int) ≤ 5000 := by omega
  have k1 : ¬ (k : Int) < 0 := by omega
  have k2 : ¬ (m : Int) ≤ k := by omega
  have k3 : (k : Int) ≤ 1000 := by omega
  have HL := Lib.hid hl
  have HDL := Lib.hid (digs_lt hn6)
  have HDV := Lib.hid (digs_hv hn6)
  have HDE := Lib.hid (fun j hj => digs_le n hn6 j hj)
  have IB := Lib.hid (fun (c : Int) w => Tryz.strings_IndexByte ⟨#[48, 49, 50, 51, 52, 53, 54, 55, 56, 57, 65, 66, 67, 68, 69, 70]⟩ c w)
  have HN := Lib.hid hn6
  have HM := Lib.hid hm
  clear hn6 hm hl hs
  go_enter Tryz.func64, Tryz.ntmps64
  go_upto_region 5 with (fail)
  go_loopw [6, 7] (fun p i wr => ∃ j : Nat, j ≤ 4 ∧ i = .int .i64 ((5 * k + j : Nat) : Int) ∧ p = .int .i32 (hv ((digs n).take j) : Nat) ∧ w = wr) (fun _ i _ => 5 * k + 5 - (intOf i).toNat)
  case atStart => exact ⟨0, by omega, by simp; omega, rfl, rfl⟩
  case round =>
    obtain ⟨j, hj, rfl, rfl, rfl⟩ := hrel
    obtain ⟨q, hq⟩ : ∃ q, q = 5 * k + j := ⟨_, rfl⟩
    rw [← hq]
    have HQ := Lib.hid hq
    by_cases hlt : j < 4
    · have g0 : (q : Int) < (k : Int) * 5 + 5 - 1 := by omega
      have hql : q < t.length := by have := HL.out; omega
      have hqi : (q : Int) < t.length := by omega
      have hdj : j < (digs n).length := hlt
      have hd16 := HDL.out (digs n)[j] (List.getElem_mem hdj)
      have HTJ : Hid (hv ((digs n).take (j + 1)) = hv ((digs n).take j) * 16 + (digs n)[j]) := Lib.hid (by rw [List.take_succ_eq_append_getElem hdj, hv_snoc])
      have hx9 := HDE.out j hlt
      have HTC : Hid (t[q] = hx (digs n)[j]) := Lib.hid (by
        have h1 := HG.out j (by omega)
        rw [cell_dig n j hlt, ← hq, List.getElem?_eq_getElem hql] at h1
        exact Option.some.inj h1)
      have hxd := hx_nat ⟨(digs n)[j], hd16⟩
      have IR : Hid (∀ w, Calls Tryz.prog 110 #[.string ⟨#[48, 49, 50, 51, 52, 53, 54, 55, 56, 57, 65, 66, 67, 68, 69, 70]⟩, .int .u8 (t[q].toNat : Nat)] w fun e w' => e = .returned (.int .i64 ((digs n)[j] : Nat)) ∧ w = w') := Lib.hid (fun w => (IB.out (t[q].toNat : Nat) w).mono (fun e w' ⟨he, hw⟩ => ⟨by
        rw [he]
        have h3 : ((t[q].toNat : Nat) : Int).toNat.toUInt8 = hx (digs n)[j] := by rw [HTC.out]; exact hxd.2.2
        rw [h3]
        exact congrArg (fun z => Ending.returned (.int .i64 z)) hxd.2.1, hw.symm⟩))
      clear hxd HTC
      generalize (digs n)[j] = dj at *
      generalize hv ((digs n).take j) = x at *
      have ho := or_hex x dj hx9 hd16
      have hx8 : (x : Int) ≤ 4095 := by omega
      have hd8 : (dj : Int) ≤ 15 := by omega
      clear hq hd16 hx9 IB HG HDL HDE HDV
      go_wp2_with (go_at_call 110; (with_reducible refine (IR.out _).mono ?_); rintro e wx ⟨rfl, rfl⟩)
      exact ⟨⟨j + 1, by omega, by rw [HQ.out]; simp; omega, by rw [HTJ.out]; simp, trivial⟩, by have := HQ.out; simp [intOf]; omega⟩
    · have hj4 : j = 4 := by omega
      subst hj4
      have g0 : ¬ (q : Int) < (k : Int) * 5 + 5 - 1 := by omega
      have hpv : hv ((digs n).take 4) = n := HDV.out
      rw [hpv]
      clear hq hpv IB HG HDL HDE HDV
      go_wp2
      go_ret2
      exact ⟨rfl, rfl⟩
theorem bat_any (ns : List Nat) (hn : ns.length ≤ 1000) (hs : Hid (∀ n ∈ ns, n < 65536)) (k : Int) (h0 : -100000 ≤ k) (h1 : k ≤ 100000) (w : World) : Calls Tryz.prog 64 #[.string ⟨(listT ns).toArray⟩, .int .i64 k] w fun e w' => e = .returned (.tuple #[.int .i32 ((atW ns k).getD 0 : Nat), .bool (atW ns k).isSome]) ∧ w = w' := by
  unfold atW
  by_cases h : k < 0
  · rw [if_pos h]
    exact bat_no ns hn k (.inl h) h0 h1 w
  · rw [if_neg h]
    obtain ⟨i, rfl⟩ : ∃ i : Nat, k = i := ⟨k.toNat, by omega⟩
    by_cases h2 : i < ns.length
    · rw [Int.toNat_natCast, List.getElem?_eq_getElem h2]
      exact bat_in ns hn hs i h2 w
    · rw [Int.toNat_natCast, List.getElem?_eq_none (by omega)]
      exact bat_no ns hn i (.inr (by omega)) h0 h1 w
set_option maxHeartbeats 4000000 in
set_option maxRecDepth 100000 in
theorem bfind_out (l : List UInt8) (p : Int) (h : p < 0 ∨ 65535 < p) (w : World) : Calls Tryz.prog 92 #[.string ⟨l.toArray⟩, .int .i32 p] w fun e w' => e = .returned (.int .i64 (-1)) ∧ w = w' := by
  go_enter Tryz.func92, Tryz.ntmps92
  by_cases h1 : p < 0
  · go_wp2
    all_goals go_ret
    all_goals exact ⟨rfl, rfl⟩
  · have h2 : 65535 < p := by omega
    go_wp2
    all_goals go_ret
    all_goals exact ⟨rfl, rfl⟩
set_option maxHeartbeats 4000000 in
set_option maxRecDepth 100000 in
theorem bfind_in (ns : List Nat) (hn : ns.length ≤ 1000) (hs : Hid (∀ n ∈ ns, n < 65536)) (p : Nat) (hp : p < 65536) (m : Int) (w : World) (hm : Hid (Mx m w)) : Calls Tryz.prog 92 #[.string ⟨(listT ns).toArray⟩, .int .i32 p] w fun e w' => e = .returned (.int .i64 (fdW ns p)) ∧ Below w.heap.size w w' := by
  have HI := Lib.hid (index_list ns p hp hs.out)
  have hl := listT_len ns
  have HLN : Hid ((listT ns).length ≤ 5000) := Lib.hid (by omega)
  clear hl
  generalize listT ns = t at *
  have p1 : ¬ (p : Int) < 0 := by omega
  have p2 : ¬ (65535 : Int) < p := by omega
  obtain ⟨d0, h0⟩ : ∃ d, d = p / 4096 := ⟨_, rfl⟩
  obtain ⟨q1, hq1⟩ : ∃ d, d = p / 256 := ⟨_, rfl⟩
  obtain ⟨q2, hq2⟩ : ∃ d, d = p / 16 := ⟨_, rfl⟩
  obtain ⟨d1, h1⟩ : ∃ d, d = q1 % 16 := ⟨_, rfl⟩
  obtain ⟨d2, h2⟩ : ∃ d, d = q2 % 16 := ⟨_, rfl⟩
  obtain ⟨d3, h3⟩ : ∃ d, d = p % 16 := ⟨_, rfl⟩
  have s0 : (p : Int) / 4096 = (d0 : Int) := by omega
  have s1 : (p : Int) / 256 = (q1 : Int) := by omega
  have s2 : (p : Int) / 16 = (q2 : Int) := by omega
  have b1 : bits .and .i32 (q1 : Int) 15 = (d1 : Int) := by rw [i32_and15 q1 (by omega), h1]
  have b2 : bits .and .i32 (q2 : Int) 15 = (d2 : Int) := by rw [i32_and15 q2 (by omega), h2]
  have b3 : bits .and .i32 (p : Int) 15 = (d3 : Int) := by rw [i32_and15 p (by omega), h3]
  have i0 : (d0 : Int) < 16 := by omega
  have i1 : (d1 : Int) < 16 := by omega
  have i2 : (d2 : Int) < 16 := by omega
  have i3 : (d3 : Int) < 16 := by omega
  have HC : Hid (cellT p = [hx d0, hx d1, hx d2, hx d3, 32]) := Lib.hid (by unfold cellT; rw [h0, h1, h2, h3, hq1, hq2])
  have G0 := hex_at (d := d0) (by omega)
  have G1 := hex_at (d := d1) (by omega)
  have G2 := hex_at (d := d2) (by omega)
  have G3 := hex_at (d := d3) (by omega)
  have HG := Lib.hid (And.intro G0 (And.intro G1 (And.intro G2 G3)))
  clear h0 h1 h2 h3 hq1 hq2 hp G0 G1 G2 G3
  go_enter Tryz.func92, Tryz.ntmps92
  go_upto_region 3 with (fail)
  go_region
  obtain ⟨G0, G1, G2, G3⟩ := HG.out
  simp only [G0, G1, G2, G3]
  clear G0 G1 G2 G3 HG s0 s1 s2 i0 i1 i2 i3
  have HGET : Hid (∀ o, (w.alloc o).drew.heap[w.heap.size]? = some o) := Lib.hid (fun o => by show (w.heap.push o)[w.heap.size]? = some o; simp)
  have hB : Below w.heap.size w (w.alloc (Obj.cells #[.int .u8 (hx d0).toNat, .int .u8 (hx d1).toNat, .int .u8 (hx d2).toNat, .int .u8 (hx d3).toNat, .int .u8 32] 5)).drew := ((Below.refl w.heap.size w).alloc (Nat.le_refl _) _).drew
  have hV : Buf (w.alloc (Obj.cells #[.int .u8 (hx d0).toNat, .int .u8 (hx d1).toNat, .int .u8 (hx d2).toNat, .int .u8 (hx d3).toNat, .int .u8 32] 5)).drew w.heap.size 5 (.slice (some ⟨w.heap.size, 0, none⟩) 5 5) (cellT p) := by
    rw [HC.out]
    exact ⟨rfl, .inr ⟨w.heap.size, 5, #[.int .u8 (hx d0).toNat, .int .u8 (hx d1).toNat, .int .u8 (hx d2).toNat, .int .u8 (hx d3).toNat, .int .u8 32], rfl, Nat.le_refl _, HGET.out _, Nat.le_refl 5, (by decide : 5 ≤ maxLen), rfl, rfl⟩⟩
  generalize (w.alloc (Obj.cells #[.int .u8 (hx d0).toNat, .int .u8 (hx d1).toNat, .int .u8 (hx d2).toNat, .int .u8 (hx d3).toNat, .int .u8 32] 5)).drew = w1 at *
  have hcv := ownsRow_bytes (P := Tryz.prog) (src := 35) (dst := 9) (show World.ownsRow _ _ _ _ _ _ _ from hV) Tryz.underlying35 Tryz.underlying5 Tryz.underlying9
  have hM1 := hm.out.below hB
  have SI := Lib.hid (Tryz.strings_Index ⟨t.toArray⟩ ⟨(cellT p).toArray⟩ m w1 (by show t.toArray.size < _; have := HLN.out; simp; omega) hM1.1)
  have HR : Hid (Lib.index (⟨t.toArray⟩ : ByteArray).data.toList (⟨(cellT p).toArray⟩ : ByteArray).data.toList = match ns.findIdx? (· == p) with | some k => ((5 * k : Nat) : Int) | none => -1) := Lib.hid HI.out
  rw [HR.out] at SI
  have HB := Lib.hid hB
  have HF : Hid (match ns.findIdx? (· == p) with | some k => fdW ns p = (k : Int) | none => fdW ns p = -1) := Lib.hid (by
    unfold fdW
    rcases ns.findIdx? (· == p) with _ | k <;> rfl)
  clear HI HR HC hB hM1 hV b1 b2 b3 HGET
  rcases hf : ns.findIdx? (· == p) with _ | k
  · simp only [hf] at SI HF
    clear hf
    go_wp2_with (go_at_call 125; (with_reducible refine SI.out.mono ?_); rintro e wx ⟨rfl, rfl⟩)
    go_ret
    rw [HF.out]
    exact ⟨rfl, HB.out⟩
  · simp only [hf] at SI HF
    have hk5 : (k : Int) ≤ 1000 := by
      have h1 := (List.findIdx?_eq_some_iff_getElem.1 hf).1
      omega
    have k0 : ¬ ((5 * k : Nat) : Int) < 0 := by omega
    have k1 : ((5 * k : Nat) : Int) / 5 = (k : Int) := by omega
    generalize ((5 * k : Nat) : Int) = f5 at *
    clear hf
    go_wp2_with (go_at_call 125; (with_reducible refine SI.out.mono ?_); rintro e wx ⟨rfl, rfl⟩)
    go_ret
    rw [HF.out, k1]
    exact ⟨rfl, HB.out⟩
end Go.Proofs.YtffhmjlojmoomaaGreatDoor
