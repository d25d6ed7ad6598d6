/- What the examples need of the program's lists. | Layers 6, 7, 8: the document's examples. -/
import Derived.Test.YtffhmjlojmoomaaGreatDoorZB7
import Derived.Test.YtffhmjlojmoomaaGreatDoorZW14

namespace Go.Proofs.YtffhmjlojmoomaaGreatDoor
open Go.RowKit
set_option linter.unusedVariables false
set_option linter.unusedSimpArgs false

theorem unT_listT : ∀ l : List Nat, (∀ n ∈ l, n < 65536) → unT (listT l) = l
  | [], _ => rfl
  | n :: l, h => by
    have hn := h n (by simp)
    have e : unT (listT (n :: l)) = (unhx (hx (n / 4096)) * 4096 + unhx (hx (n / 256 % 16)) * 256 + unhx (hx (n / 16 % 16)) * 16 + unhx (hx (n % 16))) :: unT (listT l) := rfl
    rw [e, unT_listT l (fun m hm => h m (by simp [hm]))]
    have h1 := hx_unhx ⟨n / 4096, by omega⟩
    have h2 := hx_unhx ⟨n / 256 % 16, by omega⟩
    have h3 := hx_unhx ⟨n / 16 % 16, by omega⟩
    have h4 := hx_unhx ⟨n % 16, by omega⟩
    simp only at h1 h2 h3 h4
    rw [h1, h2, h3, h4]
    congr 1
    omega
set_option maxRecDepth 100000 in
theorem koi_two' : ∀ l, l = unT ((textsOf Tryz.f43).getD 0 []) → l[65]? = some 1072 ∧ l[66]? = some 1073 := by
  intro l h
  subst h
  decide +kernel
theorem koi_two {C : Cst} (hC : CstOk C) : C.koi[65]? = some 1072 ∧ C.koi[66]? = some 1073 :=
  koi_two' C.koi (by rw [hC.koiE, unT_listT _ (fun n hn => by have := hC.koiL.2 n hn; omega)])
set_option maxRecDepth 100000 in
theorem grp_two' : ∀ M, M = (textsOf Tryz.f123).getD 0 [] → (wIn ⟨[], [], [], [], [], [], M, []⟩ 0 = true ∧ wOwn ⟨[], [], [], [], [], [], M, []⟩ 0 = 0) ∧ (wIn ⟨[], [], [], [], [], [], M, []⟩ 1 = true ∧ wOwn ⟨[], [], [], [], [], [], M, []⟩ 1 = 1) ∧ (wIn ⟨[], [], [], [], [], [], M, []⟩ 11171 = false ∧ wOwn ⟨[], [], [], [], [], [], M, []⟩ 11171 = 2350) := by
  intro M h
  subst h
  decide +kernel
theorem grp_two {C : Cst} (hC : CstOk C) : (wIn C 0 = true ∧ wOwn C 0 = 0) ∧ (wIn C 1 = true ∧ wOwn C 1 = 1) ∧ (wIn C 11171 = false ∧ wOwn C 11171 = 2350) :=
  grp_two' C.mem (by rw [hC.memE]; rfl)
theorem aw_b0a1 {C : Cst} (hC : CstOk C) : bytesW C 44032 = some 45217 := by
  obtain ⟨⟨h1, h2⟩, -, -⟩ := grp_two hC
  unfold bytesW
  rw [if_pos (by omega), show 44032 - 44032 = 0 by rfl, if_pos h1, h2]
theorem aw_b0a2 {C : Cst} (hC : CstOk C) : bytesW C 44033 = some 45218 := by
  obtain ⟨-, ⟨h1, h2⟩, -⟩ := grp_two hC
  unfold bytesW
  rw [if_pos (by omega), show 44033 - 44032 = 1 by rfl, if_pos h1, h2]
theorem aw_c652 {C : Cst} (hC : CstOk C) : bytesW C 55203 = some 50770 := by
  obtain ⟨-, -, h1, h2⟩ := grp_two hC
  unfold bytesW
  rw [if_pos (by omega), show 55203 - 44032 = 11171 by rfl, if_neg (by rw [h1]; decide), h2]
  decide
theorem aw_s1 {C : Cst} (hC : CstOk C) : signW C 176 161 = some 44032 := (bytesW_sign hC _ _ (aw_b0a1 hC)).2.2
theorem aw_s2 {C : Cst} (hC : CstOk C) : signW C 176 162 = some 44033 := (bytesW_sign hC _ _ (aw_b0a2 hC)).2.2
set_option maxRecDepth 100000 in
theorem b5_two' : ∀ L, L = (textsOf Tryz.f63).map unT → spanG 202 (List.zip hdB L) = some 34918 := by
  intro L h
  subst h
  decide +kernel
theorem aw_b5 {C : Cst} (hC : CstOk C) : bytB C 202 [65] = some (34918, 1) := by
  have h := b5_two' C.b5 (by
    rw [hC.b5E, List.map_map]
    symm
    exact (List.map_congr_left (f := unT ∘ listT) (g := id) (fun l hl => unT_listT l (fun n hn => (hC.b5M l hl n hn).2.1))).trans (List.map_id _))
  unfold bytB spB
  rw [h]
  rfl
theorem aw_sg {C : Cst} (hC : CstOk C) : sgB C 136 98 = some [202, 772] := by
  have h : bytB C 202 [772] = some (34914, 2) := by
    unfold bytB
    rw [show twG 202 [772] twB = some 98 by decide +kernel]
  obtain ⟨-, -, ⟨e, -⟩ | ⟨-, q, hq, h2⟩⟩ := bytB_sign hC _ _ _ _ h
  · cases e
  · obtain rfl : 772 = q := by simpa using hq
    exact h2
end Go.Proofs.YtffhmjlojmoomaaGreatDoor

namespace Go.Proofs.YtffhmjlojmoomaaGreatDoor
open Go.RowKit
set_option linter.unusedVariables false
set_option linter.unusedSimpArgs false

set_option maxHeartbeats 4000000 in
set_option maxRecDepth 100000 in
theorem awake06 (w : World) : Calls Tryz.prog 14 #[] w fun e w' => e = .returned (.bool true) ∧ Below w.heap.size w w' := by
  have SG : Hid (∀ w, Calls Tryz.prog 35 #[.int .u8 136, .int .u8 97] w fun e w' => e = .returned (.tuple #[.int .i32 44032, .bool true]) ∧ w = w') := Lib.hid (fun w => by
    have h := jsign_any 136 97 w
    rw [show jSign (((136 : UInt8).toNat : Int) * 256 + ((97 : UInt8).toNat : Int)) = some 44032 by decide +kernel] at h
    exact h)
  have BY : Hid (∀ w, Calls Tryz.prog 36 #[.int .i32 12595] w fun e w' => e = .returned (.tuple #[.string ⟨([132, 68] : List UInt8).toArray⟩, .bool true]) ∧ Below w.heap.size w w') := Lib.hid (fun w => by
    have h := jbytes_any 12595 (by decide) w
    rw [show jTxt 12595 = [132, 68] by decide +kernel, show (jBytes 12595).isSome = true by decide +kernel] at h
    exact h)
  have K := Lib.hid (Below.refl w.heap.size w)
  go_enter Tryz.func14, Tryz.ntmps14
  go_wp2_with (first | (go_at_call 35; (with_reducible refine (SG.out _).mono ?_); rintro e w1 ⟨rfl, rfl⟩) | (go_at_call 36; (with_reducible refine (BY.out _).mono ?_); rintro e w2 ⟨rfl, hb1⟩; replace K := Lib.hid (nextB K.out hb1); clear hb1))
  go_ret
  exact ⟨rfl, K.out⟩
set_option maxHeartbeats 4000000 in
set_option maxRecDepth 100000 in
theorem awake07 (C : Cst) (hC : Hid (CstOk C)) (w : World) (hD : Hid (DeB w)) (m : Int) (hm : Hid (Mx m w)) : Calls Tryz.prog 15 #[] w fun e w' => e = .returned (.bool true) ∧ Below w.heap.size w w' := by
  have SG : Hid (∀ w, DeB w → Calls Tryz.prog 37 #[.int .u8 176, .int .u8 162] w fun e w' => e = .returned (.tuple #[.int .i32 44033, .bool true]) ∧ Below w.heap.size w w') := Lib.hid (fun w hd => by
    have h := wsign_any C hC 176 162 (by decide) (by decide) w (Lib.hid hd)
    rw [aw_s2 hC.out] at h
    exact h)
  have BY : Hid (∀ w, Mx m w → Calls Tryz.prog 38 #[.int .i32 55203] w fun e w' => e = .returned (.tuple #[.string ⟨([198, 82] : List UInt8).toArray⟩, .bool true]) ∧ Below w.heap.size w w') := Lib.hid (fun w hd => by
    have h := wbytes_any C hC 55203 (by decide) m w (Lib.hid hd)
    have e : wTxt C 55203 = [198, 82] := by unfold wTxt; rw [aw_c652 hC.out]; rfl
    rw [e, aw_c652 hC.out] at h
    exact h)
  have K := Lib.hid (Below.refl w.heap.size w)
  go_enter Tryz.func15, Tryz.ntmps15
  go_wp2_with (first | (go_at_call 37; (with_reducible refine (SG.out _ (hD.out.below K.out)).mono ?_); rintro e w1 ⟨rfl, hb1⟩; replace K := Lib.hid (nextB K.out hb1); clear hb1) | (go_at_call 38; (with_reducible refine (BY.out _ (hm.out.below K.out)).mono ?_); rintro e w2 ⟨rfl, hb1⟩; replace K := Lib.hid (nextB K.out hb1); clear hb1))
  go_ret
  exact ⟨rfl, K.out⟩
set_option maxHeartbeats 4000000 in
set_option maxRecDepth 100000 in
theorem awake08 (C : Cst) (hC : Hid (CstOk C)) (w : World) (m : Int) (hm : Hid (Mx m w)) : Calls Tryz.prog 16 #[] w fun e w' => e = .returned (.bool true) ∧ Below w.heap.size w w' := by
  have SG : Hid (∀ w, Calls Tryz.prog 39 #[.int .u8 136, .int .u8 98] w fun e w' => e = .returned (.tuple #[.string ⟨([195, 138, 204, 132] : List UInt8).toArray⟩, .bool true]) ∧ Below w.heap.size w w') := Lib.hid (fun w => by
    have h := bsigns_any C hC 136 98 (by decide) (by decide) w
    rw [aw_sg hC.out] at h
    have e : encs ((some [202, 772]).getD []) = [195, 138, 204, 132] := by decide +kernel
    rw [e] at h
    exact h)
  have BY : Hid (∀ (w : World), Mx m w → Calls Tryz.prog 40 #[.slice (some ⟨w.heap.size, 0, none⟩) 2 2] (w.alloc (.cells #[.int .i32 202, .int .i32 65] 21)) fun e w' => e = .returned (.tuple #[.string ⟨([136, 102] : List UInt8).toArray⟩, .int .i64 1]) ∧ Below w.heap.size w w') := Lib.hid (fun w hd => by
    have hal := (Below.refl w.heap.size w).alloc (Nat.le_refl _) (.cells #[.int .i32 202, .int .i32 65] 21)
    have hg := at_a0 w #[.int .i32 202, .int .i32 65] 21
    have h := bbytes_any C hC 202 [65] (by decide) (by decide) 2 2 w.heap.size rfl (w.alloc (.cells #[.int .i32 202, .int .i32 65] 21)) (Lib.hid (by simp)) (Lib.hid (by rw [cell_at hg]; rfl)) (Lib.hid (fun q e => by injection e with e; subst e; rw [cell_at hg]; rfl)) m (Lib.hid (hd.below hal))
    rw [aw_b5 hC.out] at h
    exact h.mono fun e w' ⟨h1, h2⟩ => ⟨h1, nextB hal h2⟩)
  have K := Lib.hid (Below.refl w.heap.size w)
  go_enter Tryz.func16, Tryz.ntmps16
  go_wp2_with (first | (go_at_call 39; (with_reducible refine (SG.out _).mono ?_); rintro e w1 ⟨rfl, hb1⟩; replace K := Lib.hid (nextB K.out hb1); clear hb1) | (go_at_call 40; (with_reducible refine (BY.out _ (hm.out.below K.out)).mono ?_); rintro e w2 ⟨rfl, hb1⟩; replace K := Lib.hid (nextB K.out hb1); clear hb1))
  go_ret
  exact ⟨rfl, K.out⟩
end Go.Proofs.YtffhmjlojmoomaaGreatDoor
