/- Layer 18 (packet): the law of laces, walked. -/
import Derived.Test.YtmnmonmbdgedbaaPk13
import Derived.Test.YtmnmonmbdgedbaaPk9
namespace Go.Proofs.Ytmnmonmbdgedbaa
open Go.RowKit
set_option linter.unusedVariables false
set_option linter.unusedSimpArgs false

theorem lace_get (n i : Nat) (hi : i < n / 255) : (laceL n)[i]'(by rw [laceL_length]; omega) = 255 := by
  have h : i < (List.replicate (n / 255) (255 : UInt8)).length := by rw [List.length_replicate]; exact hi
  unfold laceL
  rw [List.getElem_append_left h, List.getElem_replicate]
theorem lace_end (n : Nat) : ((laceL n)[n / 255]'(by rw [laceL_length]; omega)).toNat = n % 255 := by
  unfold laceL
  rw [List.getElem_append_right (by rw [List.length_replicate]; exact Nat.le_refl _)]
  simp
  omega
set_option maxHeartbeats 1000000 in
set_option maxRecDepth 100000 in
theorem walk_PacketLaces (n : Int) (hn : (Lit.int .i64 n).wf = true) (w : World) : Calls Try.prog 8 #[.int .i64 n] w fun e w' => e = .returned (.bool true) ∧ Below w.heap.size w w' := by
  have hn2 : -9223372036854775808 ≤ n ∧ n ≤ 9223372036854775807 := by
    simp [Lit.wf, IntKind.bits, IntKind.signed, IntKind.min, IntKind.max] at hn
    omega
  obtain ⟨hn0, hn1⟩ := hn2
  clear hn
  have AW := Lib.hid awake18'
  by_cases hbig : (1048576 : Int) < n
  · go_enter Try.func8, Try.ntmps8
    go_wp2_with (go_at_call 32; (with_reducible refine (AW.out _).mono ?_); rintro e w1 ⟨rfl, hb1⟩)
    go_ret
    exact ⟨rfl, hb1⟩
  · obtain ⟨k, hk⟩ : ∃ k : Nat, k = n.toNat := ⟨_, rfl⟩
    have hm : max n 0 = (k : Int) := by omega
    have L1 := Lib.hid (fun w => lace_any n w (by omega) hn0)
    have L2 := Lib.hid (fun w => rlace_any n w (by omega) hn0)
    rw [← hk] at L1 L2
    clear hk
    have hkb : (k : Int) ≤ 1048576 := by omega
    obtain ⟨T, hT⟩ : ∃ T, T = laceL k := ⟨_, rfl⟩
    obtain ⟨q, hq⟩ : ∃ q, q = k / 255 := ⟨_, rfl⟩
    have hTl : T.length = q + 1 := by rw [hT, laceL_length, hq]
    have hTg : ∀ i (hi : i < q) (h2 : i < T.length), T[i] = 255 := by
      intro i hi h2
      subst hT
      exact lace_get k i (by omega)
    have hTe : ∀ h2 : q < T.length, (T[q]'h2).toNat < 255 := by
      intro h2
      subst hT; subst hq
      rw [lace_end]
      omega
    have hlk : lacesL T = k := by rw [hT, laces_lace]
    have LG := Lib.hid (fun w => rlong_any T w (by omega))
    rw [hlk] at LG
    rw [← hT] at L1 L2
    have hne : (T == []) = false := by
      have : T ≠ [] := by intro e; rw [e] at hTl; simp at hTl
      simpa using this
    have hne2 : (T = []) = False := by
      have : T ≠ [] := by intro e; rw [e] at hTl; simp at hTl
      simpa using this
    have hql : q ≤ 5000 := by omega
    have HTG := Lib.hid hTg
    have HTE := Lib.hid hTe
    have hTi : (T.length : Int) - 1 = (q : Int) := by omega
    have hqT : q < T.length := by omega
    clear hT hq hTg hTe hlk hTl
    go_enter Try.func8, Try.ntmps8
    go_upto_region 7 with (first | (go_at_call 33; (with_reducible refine (L1.out _).mono ?_); rintro e w1 ⟨rfl, hb1⟩; have K := Lib.hid hb1; clear hb1) | (go_at_call 34; (with_reducible refine (L2.out _).mono ?_); rintro e w2 ⟨rfl, hb2⟩; replace K := Lib.hid (nextB K.out hb2); clear hb2) | (go_at_call 35; (with_reducible refine (LG.out _).mono ?_); rintro e wx ⟨rfl, rfl⟩))
    clear hne hne2 hm L1 L2 LG hbig
    go_loopw [28] (fun i wx => ∃ j : Nat, j ≤ q ∧ i = .int .i64 j ∧ Hid (Below w.heap.size w wx)) (fun i _ => q - (intOf i).toNat)
    case atStart => exact ⟨0, Nat.zero_le _, rfl, K⟩
    case round =>
      clear K
      obtain ⟨j, hj, rfl, K⟩ := hrel
      by_cases hjq : j < q
      · have g1 : (j : Int) < q := by omega
        have hjT : j < T.length := by omega
        have hjT2 : (j : Int) < T.length := by omega
        have t3 : ((T[j].toNat : Int) != 255) = false := by rw [HTG.out j hjq hjT]; rfl
        go_wp2
        exact ⟨⟨j + 1, by omega, by simp, K⟩, by simp [intOf]; omega⟩
      · have g1 : ¬ (j : Int) < q := by omega
        have t4 : decide ((T[q].toNat : Int) < 255) = true := decide_eq_true (by have := HTE.out hqT; omega)
        have t5 : (T[q].toNat : Int) < 255 := by have := HTE.out hqT; omega
        have t6 : (q : Int) < T.length := by omega
        go_wp2_with (go_at_call 32; (with_reducible refine (AW.out _).mono ?_); rintro e w3 ⟨rfl, hb3⟩; replace K := Lib.hid (nextB K.out hb3); clear hb3)
        go_ret
        exact ⟨rfl, K.out⟩
end Go.Proofs.Ytmnmonmbdgedbaa
