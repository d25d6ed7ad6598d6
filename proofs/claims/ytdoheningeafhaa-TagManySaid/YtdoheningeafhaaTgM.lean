/- Layer 15 (tag): the walk of the statement TagMany. -/
import Derived.Test.YtdoheningeafhaaTg12
namespace Go.Proofs.Ytdoheningeafhaa
open Go.RowKit
set_option linter.unusedVariables false
set_option linter.unusedSimpArgs false

def xyz : Fr := ⟨[88, 89, 90], 0, 0, 0, [], 0⟩
theorem tg_fault09 (c q : Int) (w : World) : Calls Try.prog 56 #[.int .i64 c, .int .i64 q] w fun e w' => e = .returned (.agg #[.int .i64 c, .int .i64 q]) ∧ Below w.heap.size w w' := by
  go_enter Try.func56, Try.ntmps56
  go_wp2
  exact end_cell rfl rfl rfl (at_a0 _ _ _) Try.underlying31 rfl (by kernel_rfl) ⟨rfl, (Below.refl _ _).alloc (Nat.le_refl _) _⟩
theorem many_check (k : Nat) : checkT ⟨2, 0, 0, List.replicate k xyz⟩ = if 4096 < k then (4, 4096) else (0, 0) := by
  unfold checkT
  have h1 : badH 2 0 0 = false := by decide
  have h2 : firstBad 2 0 (List.replicate k xyz) = (List.replicate k xyz).length := findIdx_none (fun x hx => by rw [List.eq_of_mem_replicate hx]; decide)
  simp only [h1, h2, Bool.false_eq_true, if_false, Nat.lt_irrefl, List.length_replicate]
theorem tg_recs_atv {w : World} {base e size n cap : Nat} {a : Option Addr} {L : List (List Value)} (h : Recs w base e size (.slice a n cap) L) : RecsAt w a n size L := by
  obtain ⟨a', cap', hv, _, hr⟩ := h.at
  obtain ⟨rfl, rfl, rfl⟩ : a = a' ∧ n = L.length ∧ cap = cap' := by simpa using hv
  exact hr
def FaultSays (c q : Int) (w : World) (e : Ending) (w' : World) : Prop := e = .returned (.agg #[.int .i64 c, .int .i64 q]) ∧ Below w.heap.size w w'
set_option maxHeartbeats 4000000 in
set_option maxRecDepth 100000 in
theorem many_in (n k : Nat) (w : World) (hn : n < 65536) (hk : k = 4090 + n % 12)
    (CK : Hid (∀ a cap w, RecsAt w a k 6 ((List.replicate k xyz).map frR) → Calls Try.prog 70 #[.agg #[.int .i64 2, .int .u8 0, .int .u8 0, .slice a k cap]] w (FaultSays (if 4096 < k then 4 else 0) (if 4096 < k then 4096 else 0) w))) :
    Calls Try.prog 16 #[.int .u16 n] w fun e w' => e = .returned (.bool true) ∧ Below w.heap.size w w' := by
  have hn' : (n : Int) ≤ 65535 := by omega
  have hk1 : 4090 ≤ k := by omega
  have hk2 : k ≤ 4101 := by omega
  have HK : Hid ((4090 : Int) + (n : Int) % 12 = (k : Int)) := Lib.hid (by omega)
  clear hk
  unfold FaultSays at CK
  obtain ⟨R, hR⟩ : ∃ R, R = w.heap.size := ⟨_, rfl⟩
  have HRR := Lib.hid hR
  have X : Hid ((w.alloc (.cells #[.int .i64 2, .int .u8 0, .int .u8 0, .slice none 0 0] 26)).heap[R]? = some (.cells #[.int .i64 2, .int .u8 0, .int .u8 0, .slice none 0 0] 26 (0, 0))) := Lib.hid (by rw [hR]; exact at_a0 _ _ _)
  have K : Hid (Below w.heap.size w (w.alloc (.cells #[.int .i64 2, .int .u8 0, .int .u8 0, .slice none 0 0] 26))) := Lib.hid ((Below.refl _ _).alloc (Nat.le_refl _) _)
  go_enter Try.func16, Try.ntmps16
  go_upto_region 3 with (fail)
  rw [HK.out, ← hR]
  clear HK hR hn hn'
  generalize w.alloc (.cells #[.int .i64 2, .int .u8 0, .int .u8 0, .slice none 0 0] 26) = w0 at *
  go_wp2
  go_loopw [13] (fun i wr => ∃ (j : Nat) (a : Option Addr) (cap : Nat), j ≤ k ∧ i = .int .i64 j ∧ Hid (wr.heap[R]? = some (.cells #[.int .i64 2, .int .u8 0, .int .u8 0, .slice a j cap] 26 (0, 0))) ∧ Hid (Recs wr (R + 1) 51 6 (.slice a j cap) ((List.replicate j xyz).map frR)) ∧ Hid (Below w.heap.size w wr)) (fun i _ => k - (intOf i).toNat)
  case atStart => exact ⟨0, none, 0, by omega, rfl, X, Lib.hid (Recs.nil _ _ _ _), K⟩
  case round =>
    clear X K
    obtain ⟨j, a, cap, hj, rfl, X, V, K⟩ := hrel
    have hxR := (Array.getElem?_eq_some_iff.1 X.out).1
    have x0 := cell_at (j := 0) X.out; have x1 := cell_at (j := 1) X.out; have x2 := cell_at (j := 2) X.out; have x3 := cell_at (j := 3) X.out; simp only [List.getElem?_toArray, List.getElem?_cons_zero, List.getElem?_cons_succ] at x0 x1 x2 x3
    by_cases hlt : j < k
    · have g0 : (j : Int) < k := by omega
      have HL1 : Hid (((List.replicate j xyz).map frR ++ [frR xyz]).length = j + 1) := Lib.hid (by simp)
      go_wp2_with (at_builtin; refine wpList_pushR wr rfl (.tmp 16) (.tmp 19) 24 rfl (R + 1) 51 6 56 _ Try.underlying24 info_frame rfl (by decide) (by decide) _ ((List.replicate j xyz).map frR) (frR xyz) _ (by rfl) rfl (one_frR xyz) (by rfl) V.out (by rfl) (by simp; omega) (by omega) _ ?_; intro v5 w5 hr5 hg5; have hl5 := V.out.lt; have V5 := Lib.hid hr5; have X5 := Lib.hid (block_grown X.out hg5 (fun k e => (hl5 k e).1) (by omega)); have K5 := Lib.hid (grown_belowR K.out hg5 (fun k e => by have := (hl5 k e).1; have := HRR.out; omega) K.out.size); obtain ⟨a5, cap5, hv5, _, _⟩ := V5.out.at; rw [HL1.out] at hv5; subst hv5; clear hl5 hr5 hg5; have z0 := cell_at (j := 0) X5.out; have z1 := cell_at (j := 1) X5.out; have z2 := cell_at (j := 2) X5.out; have z3 := cell_at (j := 3) X5.out; have zf0 := free_at (j := 0) X5.out; have zf1 := free_at (j := 1) X5.out; have zf2 := free_at (j := 2) X5.out; have zf3 := free_at (j := 3) X5.out; simp only [List.getElem?_toArray, List.getElem?_cons_zero, List.getElem?_cons_succ] at z0 z1 z2 z3)
      have V6 := Lib.hid (V5.out.onlyT (Only.set (b := R) (j := 3) (.slice a5 (j + 1) cap5)) (by omega))
      refine ⟨⟨j + 1, a5, cap5, by omega, by simp, Lib.hid (setCell_at X5.out), ?_, Lib.hid (Below.setCell (p := ⟨R, 3, none⟩) K5.out (by have := HRR.out; show w.heap.size ≤ R; omega) _)⟩, by simp [intOf]; omega⟩
      rw [List.replicate_succ', List.map_append]
      exact V6
    · have g0 : ¬ (j : Int) < k := by omega
      have hjk : j = k := by omega
      subst hjk
      have HAT := Lib.hid (tg_recs_atv V.out)
      have F9 := Lib.hid (fun w => tg_fault09 4 4096 w)
      by_cases hbig : 4096 < j
      · have g1 : (4096 : Int) < j := by omega
        rw [if_pos hbig, if_pos hbig] at CK
        go_upto_region 9 with (go_at_call 70; (with_reducible refine (CK.out _ _ _ HAT.out).mono ?_); rintro e w1 ⟨rfl, hb1⟩; replace K := Lib.hid (nextB K.out (hb1)); clear hb1)
        have G := Lib.hid (at_a0 w1 #[.int .i64 4, .int .i64 4096] 31)
        replace K := Lib.hid (K.out.alloc K.out.size (.cells #[.int .i64 4, .int .i64 4096] 31))
        generalize w1.alloc (.cells #[.int .i64 4, .int .i64 4096] 31) = v1 at *
        generalize w1.heap.size = gb at *
        have cc : v1.cell? ⟨gb, 0, none⟩ = some (.int .i64 4) ∧ v1.cell? ⟨gb, 1, none⟩ = some (.int .i64 4096) := ⟨cell_at (j := 0) (G.out), cell_at (j := 1) (G.out)⟩
        have ccd : (v1.drew).cell? ⟨gb, 0, none⟩ = some (.int .i64 4) ∧ (v1.drew).cell? ⟨gb, 1, none⟩ = some (.int .i64 4096) := cc
        go_region_held3 (fun w' => w'.cell? ⟨gb, 0, none⟩ = some (.int .i64 4) ∧ w'.cell? ⟨gb, 1, none⟩ = some (.int .i64 4096)) (first | with_reducible exact ccd | with_reducible exact x3 | with_reducible exact x2 | fail)
          (first | (go_at_call 63; (with_reducible refine (awake15' _).mono ?_); rintro e w2 ⟨rfl, hb2⟩; have k2 := Lib.hid (fr_drewB hb2); have x2 : w2.cell? ⟨gb, 0, none⟩ = some (.int .i64 4) ∧ w2.cell? ⟨gb, 1, none⟩ = some (.int .i64 4096) := ⟨cell_at (j := 0) (block_below G.out k2.out), cell_at (j := 1) (block_below G.out k2.out)⟩; clear hb2) | (go_at_call 56; (with_reducible refine (F9.out _).mono ?_); rintro e w3 ⟨rfl, hb3⟩; have k3 := Lib.hid (nextB k2.out hb3); have x3 : w3.cell? ⟨gb, 0, none⟩ = some (.int .i64 4) ∧ w3.cell? ⟨gb, 1, none⟩ = some (.int .i64 4096) := ⟨cell_at (j := 0) (block_below G.out k3.out), cell_at (j := 1) (block_below G.out k3.out)⟩; clear hb3 x2))
        go_wp2
        go_ret
        exact ⟨rfl, nextB K.out k3.out⟩
      · have g1 : ¬ (4096 : Int) < j := by omega
        rw [if_neg hbig, if_neg hbig] at CK
        have BD := Lib.hid (fun w => bad_any 0 0 w)
        rw [show ((0 : Int) != 0) = false by rfl] at BD
        go_wp2_with (first | (go_at_call 70; (with_reducible refine (CK.out _ _ _ HAT.out).mono ?_); rintro e w1 ⟨rfl, hb1⟩; replace K := Lib.hid (nextB K.out (hb1)); clear hb1) | (go_at_call 63; (with_reducible refine (awake15' _).mono ?_); rintro e w2 ⟨rfl, hb2⟩; have G := Lib.hid (block_below (at_a0 w1 #[.int .i64 0, .int .i64 0] 31) hb2); replace K := Lib.hid (nextB K.out (below_a1 hb2)); clear hb2; have g0 := cell_at (j := 0) G.out; have g1 := cell_at (j := 1) G.out; simp only [List.getElem?_toArray, List.getElem?_cons_zero, List.getElem?_cons_succ] at g0 g1) | (go_at_call 21; (with_reducible refine (BD.out _).mono ?_); rintro e w3 ⟨rfl, hb3⟩; replace K := Lib.hid (nextB K.out (hb3)); clear hb3))
        go_ret
        exact ⟨rfl, K.out⟩
theorem walk_TagMany (n : Int) (hn : (Lit.int .u16 n).wf = true) (w : World) : Calls Try.prog 16 #[.int .u16 n] w fun e w' => e = .returned (.bool true) ∧ Below w.heap.size w w' := by
  have h2 : 0 ≤ n ∧ n < 65536 := by
    simp [Lit.wf, IntKind.bits, IntKind.signed, IntKind.min, IntKind.max] at hn
    omega
  obtain ⟨m, rfl⟩ : ∃ m : Nat, n = m := ⟨n.toNat, by omega⟩
  refine many_in m (4090 + m % 12) w (by omega) rfl (Lib.hid fun a cap w h => ?_)
  have k := tcheck_any ⟨2, 0, 0, List.replicate (4090 + m % 12) xyz⟩ a (4090 + m % 12) cap w h (by omega) (fun f hf => by rw [List.eq_of_mem_replicate hf]; decide)
  rw [many_check] at k
  refine k.mono fun e w' ⟨h1, h2⟩ => ⟨?_, h2⟩
  rw [h1]
  split <;> rfl
end Go.Proofs.Ytdoheningeafhaa
