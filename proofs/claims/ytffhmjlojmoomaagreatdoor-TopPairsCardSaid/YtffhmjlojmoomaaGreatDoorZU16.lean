/- Layer 4 (run): a table read forwards. | Layer 4 (run): the search of Forward. -/
import Derived.Test.YtffhmjlojmoomaaGreatDoorZU11
import Derived.Deep.RegionHeld3

namespace Go.Proofs.YtffhmjlojmoomaaGreatDoor
open Go.RowKit
set_option linter.unusedVariables false
set_option linter.unusedSimpArgs false

theorem drewBu {V w : World} (hb : Below V.drew.heap.size V.drew w) : Below V.heap.size V w := ⟨hb.os, hb.tape, hb.output, hb.size, hb.block⟩
set_option maxHeartbeats 2000000 in
set_option maxRecDepth 100000 in
theorem fwd1_any (S : List Rv) (b off cap ab tb k : Nat) (at_ : Nat) (hk : k < S.length) (hn : S.length ≤ 3000000) (h9 : S[k].fr ≤ 1048576 ∧ S[k].ct ≤ 1048576) (ha9 : at_ ≤ 2000000) (w : World)
    (xa : w.cell? ⟨ab, 0, none⟩ = some (.int .i64 at_)) (xt : w.cell? ⟨tb, 0, none⟩ = some (.slice (some ⟨b, off, none⟩) S.length cap)) (hab : ab < w.heap.size) (htb : tb < w.heap.size) (hbb : b < w.heap.size)
    (hc : ∀ j, j < 4 → w.cell? ⟨b, off + (k * 4 + j), none⟩ = (rvR S[k])[j]?) :
    Calls Tryz.prog 115 #[.int .i64 (k : Nat), .pointer (some ⟨ab, 0, none⟩), .pointer (some ⟨tb, 0, none⟩)] w fun e w' => e = .returned (.bool (decide ((at_ : Int) < ((S[k].fr + S[k].ct : Nat) : Int)))) ∧ Below w.heap.size w w' := by
  have hki : (k : Int) < S.length := by omega
  have c0 : w.cell? ⟨b, off + k * 4, none⟩ = some (.int .i64 S[k].fr) := hc 0 (by decide)
  have c1 : w.cell? ⟨b, off + k * 4 + 1, none⟩ = some (.int .i64 S[k].ct) := hc 1 (by decide)
  have c2 : w.cell? ⟨b, off + k * 4 + 2, none⟩ = some (.int .i32 S[k].tp) := hc 2 (by decide)
  have c3 : w.cell? ⟨b, off + k * 4 + 3, none⟩ = some (.slice S[k].sa S[k].sg.length S[k].cp) := hc 3 (by decide)
  clear hc
  generalize S[k] = r at *
  obtain ⟨h91, h92⟩ := h9
  have RE := Lib.hid (fun w => rend_any r w h91 h92)
  have cc : w.cell? ⟨ab, 0, none⟩ = some (.int .i64 at_) ∧ w.cell? ⟨tb, 0, none⟩ = some (.slice (some ⟨b, off, none⟩) S.length cap) ∧ w.cell? ⟨b, off + k * 4, none⟩ = some (.int .i64 r.fr) ∧ w.cell? ⟨b, off + k * 4 + 1, none⟩ = some (.int .i64 r.ct) ∧ w.cell? ⟨b, off + k * 4 + 2, none⟩ = some (.int .i32 r.tp) ∧ w.cell? ⟨b, off + k * 4 + 3, none⟩ = some (.slice r.sa r.sg.length r.cp) := ⟨xa, xt, c0, c1, c2, c3⟩
  have HK : Hid (∀ w', Below w.heap.size w w' → w'.cell? ⟨ab, 0, none⟩ = some (.int .i64 at_) ∧ w'.cell? ⟨tb, 0, none⟩ = some (.slice (some ⟨b, off, none⟩) S.length cap) ∧ w'.cell? ⟨b, off + k * 4, none⟩ = some (.int .i64 r.fr) ∧ w'.cell? ⟨b, off + k * 4 + 1, none⟩ = some (.int .i64 r.ct) ∧ w'.cell? ⟨b, off + k * 4 + 2, none⟩ = some (.int .i32 r.tp) ∧ w'.cell? ⟨b, off + k * 4 + 3, none⟩ = some (.slice r.sa r.sg.length r.cp)) := Lib.hid (fun w' hb => ⟨(hb.cell (p := ⟨ab, 0, none⟩) hab).trans xa, (hb.cell (p := ⟨tb, 0, none⟩) htb).trans xt, (hb.cell (p := ⟨b, _, none⟩) hbb).trans c0, (hb.cell (p := ⟨b, _, none⟩) hbb).trans c1, (hb.cell (p := ⟨b, _, none⟩) hbb).trans c2, (hb.cell (p := ⟨b, _, none⟩) hbb).trans c3⟩)
  clear xa xt c0 c1 c2 c3
  go_enter Tryz.func115, Tryz.ntmps115
  go_upto_region 1 with (fail)
  go_region_held3 (fun w' => w'.cell? ⟨ab, 0, none⟩ = some (.int .i64 at_) ∧ w'.cell? ⟨tb, 0, none⟩ = some (.slice (some ⟨b, off, none⟩) S.length cap) ∧ w'.cell? ⟨b, off + k * 4, none⟩ = some (.int .i64 r.fr) ∧ w'.cell? ⟨b, off + k * 4 + 1, none⟩ = some (.int .i64 r.ct) ∧ w'.cell? ⟨b, off + k * 4 + 2, none⟩ = some (.int .i32 r.tp) ∧ w'.cell? ⟨b, off + k * 4 + 3, none⟩ = some (.slice r.sa r.sg.length r.cp)) (first | exact cc | exact x1 | fail)
    (first | (go_at_call 68; (with_reducible refine (RE.out _).mono ?_); rintro e w1 ⟨rfl, hb1⟩; have k1 := Lib.hid (drewBu hb1); have x1 := HK.out _ k1.out; clear hb1))
  go_wp2
  go_ret
  exact ⟨rfl, k1.out⟩
end Go.Proofs.YtffhmjlojmoomaaGreatDoor

namespace Go.Proofs.YtffhmjlojmoomaaGreatDoor
open Go.RowKit
set_option linter.unusedVariables false
set_option linter.unusedSimpArgs false

set_option maxHeartbeats 4000000 in
set_option maxRecDepth 100000 in
theorem search_any (S : List Rv) (b off cap ab tb n : Nat) (at_ : Nat) (hn : n = S.length) (hn9 : n ≤ 3000000) (h9 : Hid (∀ r ∈ S, r.fr ≤ 1048576 ∧ r.ct ≤ 1048576)) (ha9 : at_ ≤ 2000000) (w : World)
    (xa : Hid (w.cell? ⟨ab, 0, none⟩ = some (.int .i64 at_))) (xt : Hid (w.cell? ⟨tb, 0, none⟩ = some (.slice (some ⟨b, off, none⟩) n cap))) (hab : ab < w.heap.size) (htb : tb < w.heap.size) (hbb : b < w.heap.size)
    (hc : Hid (∀ k (hk : k < S.length) j, j < 4 → w.cell? ⟨b, off + (k * 4 + j), none⟩ = (rvR S[k])[j]?)) :
    Calls Tryz.prog 114 #[.int .i64 (n : Nat), .func (.func 115) #[] #[.pointer (some ⟨ab, 0, none⟩), .pointer (some ⟨tb, 0, none⟩)]] w fun e w' => ∃ i : Nat, e = .returned (.int .i64 (i : Nat)) ∧ i ≤ n ∧ (∀ h : i < S.length, at_ < S[i].fr + S[i].ct) ∧ (∀ h : i - 1 < S.length, 0 < i → S[i - 1].fr + S[i - 1].ct ≤ at_) ∧ Below w.heap.size w w' := by
  have FW : Hid (∀ (k : Nat) (hk : k < S.length) (w' : World), Below w.heap.size w w' → Calls Tryz.prog 115 #[.int .i64 (k : Nat), .pointer (some ⟨ab, 0, none⟩), .pointer (some ⟨tb, 0, none⟩)] w' fun e w'' => e = .returned (.bool (decide ((at_ : Int) < ((S[k].fr + S[k].ct : Nat) : Int)))) ∧ Below w'.heap.size w' w'') := Lib.hid (fun k hk w' hb =>
    fwd1_any S b off cap ab tb k at_ hk (by omega) (h9.out S[k] (List.getElem_mem hk)) ha9 w' ((hb.cell (p := ⟨ab, 0, none⟩) hab).trans xa.out) ((hb.cell (p := ⟨tb, 0, none⟩) htb).trans (by rw [xt.out, hn])) (Nat.lt_of_lt_of_le hab hb.size) (Nat.lt_of_lt_of_le htb hb.size) (Nat.lt_of_lt_of_le hbb hb.size) (fun j hj => (hb.cell (p := ⟨b, _, none⟩) hbb).trans (hc.out k hk j hj)))
  have HN := Lib.hid hn
  have hni : (n : Int) ≤ 3000000 := by omega
  clear hn xa xt hc h9
  have K := Lib.hid (Below.refl w.heap.size w)
  go_enter Tryz.func114, Tryz.ntmps114
  go_upto_region 2 with (fail)
  go_loopw [5, 6] (fun i j wr => ∃ a c : Nat, a ≤ c ∧ c ≤ n ∧ i = .int .i64 a ∧ j = .int .i64 c ∧ Hid (∀ h : c < S.length, at_ < S[c].fr + S[c].ct) ∧ Hid (∀ h : a - 1 < S.length, 0 < a → S[a - 1].fr + S[a - 1].ct ≤ at_) ∧ Hid (Below w.heap.size w wr)) (fun i j _ => (intOf j).toNat - (intOf i).toNat)
  case atStart => exact ⟨0, n, by omega, Nat.le_refl _, rfl, rfl, Lib.hid (fun h => by have := HN.out; omega), Lib.hid (fun _ h => by omega), K⟩
  case round =>
    clear K
    obtain ⟨a, c, hac, hcn, rfl, rfl, H1, H2, K⟩ := hrel
    by_cases hlt : a < c
    · have g0 : (a : Int) < c := by omega
      go_upto_region 4 with (fail)
      obtain ⟨m, em, hm1, hm2⟩ : ∃ m : Nat, ((a : Int) + c) / 2 = (m : Int) ∧ a ≤ m ∧ m < c := ⟨(a + c) / 2, by omega, by omega, by omega⟩
      rw [em]
      clear em
      have hmS : m < S.length := by have := HN.out; omega
      have CL := Lib.hid (FW.out m hmS wr K.out)
      have hmi : (m : Int) ≤ 3000000 := by omega
      by_cases ht : at_ < S[m].fr + S[m].ct
      · have HT := Lib.hid ht
        rw [show decide ((at_ : Int) < ((S[m].fr + S[m].ct : Nat) : Int)) = true from decide_eq_true (by omega)] at CL
        clear ht
        go_wp2_with (go_at_call 115; (with_reducible refine CL.out.mono ?_); rintro e w2 ⟨rfl, hb2⟩; replace K := Lib.hid (nextB K.out hb2); clear hb2)
        exact ⟨⟨a, m, hm1, by omega, rfl, rfl, Lib.hid (fun _ => HT.out), H2, K⟩, by simp [intOf]; omega⟩
      · have HT := Lib.hid (show S[m].fr + S[m].ct ≤ at_ by omega)
        rw [show decide ((at_ : Int) < ((S[m].fr + S[m].ct : Nat) : Int)) = false from decide_eq_false (by omega)] at CL
        clear ht
        go_wp2_with (go_at_call 115; (with_reducible refine CL.out.mono ?_); rintro e w2 ⟨rfl, hb2⟩; replace K := Lib.hid (nextB K.out hb2); clear hb2)
        exact ⟨⟨m + 1, c, by omega, hcn, by simp, rfl, H1, Lib.hid (fun _ _ => by simpa using HT.out), K⟩, by simp [intOf]; omega⟩
    · have g0 : ¬ (a : Int) < c := by omega
      obtain rfl : a = c := by omega
      go_wp2
      go_ret
      exact ⟨a, rfl, hcn, H1.out, H2.out, K.out⟩
end Go.Proofs.YtffhmjlojmoomaaGreatDoor
