/- Layer 9 (charset): the text of bytes in a charset of one or two bytes a sign, walked. | Layer 9 (charset): a text's bytes in CP949 or Johab, walked. -/
import Derived.Test.YtffhmjlojmoomaaGreatDoorZC1
import Derived.Test.YtffhmjlojmoomaaGreatDoorZM2
import Derived.Test.YtffhmjlojmoomaaGreatDoorZC4

namespace Go.Proofs.YtffhmjlojmoomaaGreatDoor
open Go.RowKit Go.Maps
set_option linter.unusedVariables false
set_option linter.unusedSimpArgs false

/-- the text of bytes, where two of them are read as tx tells -/
def decT (tx : UInt8 → UInt8 → List UInt8) : List UInt8 → Option (List UInt8)
  | [] => some []
  | [x] => if x.toNat < 128 then some [x] else none
  | x :: y :: l => if x.toNat < 128 then (decT tx (y :: l)).map (x :: ·) else if tx x y = [] then none else (decT tx l).map (tx x y ++ ·)
theorem decT_one {tx : UInt8 → UInt8 → List UInt8} {x : UInt8} {l : List UInt8} (h : x.toNat < 128) : decT tx (x :: l) = (decT tx l).map (x :: ·) := by
  rcases l with _ | ⟨y, l⟩
  · simp [decT, h]
  · rw [decT, if_pos h]
theorem decT_short {tx : UInt8 → UInt8 → List UInt8} {x : UInt8} (h : ¬ x.toNat < 128) : decT tx [x] = none := by rw [decT, if_neg h]
theorem decT_two {tx : UInt8 → UInt8 → List UInt8} {x y : UInt8} {l : List UInt8} (h : ¬ x.toNat < 128) : decT tx (x :: y :: l) = if tx x y = [] then none else (decT tx l).map (tx x y ++ ·) := by rw [decT, if_neg h]
/-- the first place at which no sign stands -/
def plT (tx : UInt8 → UInt8 → List UInt8) : Nat → List UInt8 → Nat
  | _, [] => 0
  | j, [x] => if x.toNat < 128 then 0 else j
  | j, x :: y :: l => if x.toNat < 128 then plT tx (j + 1) (y :: l) else if tx x y = [] then j else plT tx (j + 2) l
theorem plT_one {tx : UInt8 → UInt8 → List UInt8} {j : Nat} {x : UInt8} {l : List UInt8} (h : x.toNat < 128) : plT tx j (x :: l) = plT tx (j + 1) l := by
  rcases l with _ | ⟨y, l⟩
  · simp [plT, h]
  · rw [plT, if_pos h]
theorem plT_short {tx : UInt8 → UInt8 → List UInt8} {j : Nat} {x : UInt8} (h : ¬ x.toNat < 128) : plT tx j [x] = j := by rw [plT, if_neg h]
theorem plT_two {tx : UInt8 → UInt8 → List UInt8} {j : Nat} {x y : UInt8} {l : List UInt8} (h : ¬ x.toNat < 128) : plT tx j (x :: y :: l) = if tx x y = [] then j else plT tx (j + 2) l := by rw [plT, if_neg h]
theorem txC_len (C : Cst) (c : Nat) (a b : UInt8) (h : ∀ l, sgC C c a.toNat b.toNat = some l → l.length ≤ 2) : (txC C c a b).length ≤ 8 := by
  unfold txC
  rcases hs : sgC C c a.toNat b.toNat with _ | l
  · simp [encs]
  · have h1 := encs_len l
    have h2 := h l hs
    simp only [Option.getD_some]
    omega
theorem twF_two (s : Nat) : ∀ L l, twF s L = some l → l.length = 2
  | [], l, h => by cases h
  | x :: L, l, h => by
    unfold twF at h
    split at h
    · obtain rfl := Option.some.inj h; rfl
    · exact twF_two s L l h
theorem sgC_two {C : Cst} {c a b : Nat} {l : List Nat} (h : sgC C c a b = some l) : l.length ≤ 2 := by
  unfold sgC at h
  split at h
  · obtain ⟨p, hp, rfl⟩ := Option.map_eq_some_iff.1 h; simp
  split at h
  · obtain ⟨p, hp, rfl⟩ := Option.map_eq_some_iff.1 h; simp
  · unfold sgB at h
    split at h
    · obtain rfl := Option.some.inj h; simp
    · split at h
      · rw [twF_two _ _ _ h]; omega
      · cases h
theorem cells1 {w : World} {b : Nat} {v : Value} {T : TypeId} (h : w.heap[b]? = some (.cells #[v] T (0, 0))) : w.cell? ⟨b, 0, none⟩ = some v := by rw [cell_at h]; rfl
theorem told_ne {s : List UInt8} (h : s ≠ []) : s.isEmpty = false ∧ ((s.isEmpty = true) = False) ∧ (s == []) = false := by
  rcases s with _ | ⟨x, s⟩
  · exact absurd rfl h
  · simp
set_option maxHeartbeats 4000000 in
set_option maxRecDepth 100000 in
theorem cdec2_any (C : Cst) (hC : Hid (CstOk C)) (c : Nat) (hc : c = 4 ∨ c = 5 ∨ c = 6) (b : List UInt8) (hb : b.length ≤ 1000000) (w : World) (hD : Hid (DeB w)) : Calls Tryz.prog 24 #[.int .i64 c, .string ⟨b.toArray⟩] w fun e w' => ∃ (t : List UInt8) (cd pl : Int), e = .returned (.tuple #[.string ⟨t.toArray⟩, .agg #[.int .i64 cd, .int .i64 pl]]) ∧ ((decT (txC C c) b = some t ∧ cd = 0 ∧ pl = 0) ∨ (decT (txC C c) b = none ∧ t = [] ∧ cd = 2 ∧ pl = plT (txC C c) 0 b)) ∧ Below w.heap.size w w' := by
  have hmm := @run_makeMap Tryz.prog
  have HS := Lib.hid (fun x y w h => csigns_any C hC c hc x y w h)
  have HTL : Hid (∀ x y, (txC C c x y).length ≤ 8) := Lib.hid (fun x y => txC_len C c x y (fun l h => sgC_two h))
  generalize txC C c = tx at *
  clear hc
  have F := Lib.hid (at_a0 w #[.int .i64 0, .int .i64 0] 26)
  have K := Lib.hid ((Below.refl w.heap.size w).alloc (Nat.le_refl _) (.cells #[.int .i64 0, .int .i64 0] 26))
  have hz : (w.alloc (.cells #[.int .i64 0, .int .i64 0] 26)).heap.size = w.heap.size + 1 := by simp
  have b9 : (b.length : Int) ≤ 1000000 := by omega
  obtain ⟨rb, hrb⟩ : ∃ rb, rb = w.heap.size := ⟨_, rfl⟩
  go_enter Tryz.func24, Tryz.ntmps24
  go_upto_region 1 with (fail)
  generalize w.alloc (.cells #[.int .i64 0, .int .i64 0] 26) = w0 at *
  rw [← hrb] at F hz
  rw [← hrb]
  have HRB := Lib.hid hrb
  clear hrb
  go_upto_region 2 with (fail)
  have MP := Lib.hid (MapAt.made (M2B 90 91 76 Tryz.underlying90 law2 key2_some (fun w => by kernel_rfl) : MK Tryz.prog (UInt8 × UInt8) (List UInt8)) w0)
  have hB := (Below.refl w0.heap.size w0).alloc (Nat.le_refl _) (.map #[] 0)
  replace F := Lib.hid (block_below F.out hB)
  replace K := Lib.hid (nextB K.out hB)
  have hz4 : (w0.alloc (.map #[] 0)).heap.size = rb + 2 := by simp; omega
  clear hB
  generalize w0.alloc (.map #[] 0) = w4 at *
  rw [hz] at MP
  clear hz
  go_upto_region 4 with (fail)
  go_loopw [7, 8] (fun v i wr => ∃ (j : Nat) (acc : List UInt8), j ≤ b.length ∧ i = .int .i64 j ∧ Hid (decT tx b = (decT tx (b.drop j)).map (acc ++ ·)) ∧ Hid (plT tx 0 b = plT tx j (b.drop j)) ∧ acc.length ≤ 8 * j ∧ Hid (Buf wr (rb + 2) 5 v acc) ∧ (∃ g n, n ≤ j ∧ Hid (∀ k s, g k = some s → s = tx k.1 k.2) ∧ Hid (MapAt (M2B 90 91 76 Tryz.underlying90 law2 key2_some (fun w => by kernel_rfl) : MK Tryz.prog (UInt8 × UInt8) (List UInt8)) wr (rb + 1) n g)) ∧ Hid (wr.heap[rb]? = some (.cells #[.int .i64 0, .int .i64 0] 26 (0, 0))) ∧ Hid (Below w.heap.size w wr)) (fun _ i _ => b.length - (intOf i).toNat)
  case atStart => exact ⟨0, [], by omega, rfl, Lib.hid (by rw [List.drop_zero]; simp), Lib.hid (by rw [List.drop_zero]), by simp, Lib.hid (Buf.nil _ _ _), ⟨_, 0, by omega, Lib.hid (fun k s h => by cases h), MP⟩, F, K⟩
  case round =>
    clear F K MP hz4
    obtain ⟨j, acc, hj, rfl, HD, HPL, hal, V, ⟨g, n, hn, HG, MP⟩, F, K⟩ := hrel
    by_cases hjb : j < b.length
    · have g1 : (j : Int) < b.length := by omega
      have hd0 : b.drop j = b[j] :: b.drop (j + 1) := List.drop_eq_getElem_cons hjb
      have hx9 := UInt8.toNat_lt b[j]
      have hwb : rb + 2 ≤ wr.heap.size := by have := MP.out.lt; omega
      by_cases hx : b[j].toNat < 128
      · have HD2 : Hid (decT tx b = (decT tx (b.drop (j + 1))).map ((acc ++ [b[j]]) ++ ·)) := Lib.hid (by rw [HD.out, hd0, decT_one hx, map_con])
        have HP2 : Hid (plT tx 0 b = plT tx (j + 1) (b.drop (j + 1))) := Lib.hid (by rw [HPL.out, hd0, plT_one hx])
        have hxi : (b[j].toNat : Int) < 128 := by omega
        clear hd0 HD HPL
        generalize hxx : b[j] = x at *
        go_upto_region 6 with (fail)
        have l5 := V.out.lt
        have L5 := Lib.hid l5
        clear l5
        generalize wr = w9 at *
        go_wp2_with (at_builtin; refine wpList_push w9 rfl (.tmp 21) (.tmp 25) 35 rfl (rb + 2) 5 Tryz.underlying35 info_u8' _ acc x _ (by first | rfl | (rw [← hxx]; rfl)) (by rfl) V.out (by rfl) (by omega) hwb _ ?_; intro v5 w5 hr5 hg5; have V5 := Lib.hid hr5; have HG5 := Lib.hid hg5; clear hr5 hg5)
        have KG := Lib.hid (pk_grown (Below.refl (rb + 2) w9) HG5.out (fun k e => (L5.out k e).1) hwb)
        exact ⟨⟨j + 1, acc ++ [x], by omega, by simp, HD2, HP2, by simp; omega, V5, ⟨g, n, by omega, HG, Lib.hid (MP.out.kept HG5.out (fun e => by have := (L5.out (rb + 1) e.symm).1; omega))⟩, Lib.hid ((KG.out.block rb (by omega)).trans F.out), Lib.hid (K.out.trans (KG.out.mono (by have := HRB.out; omega)))⟩, by simp [intOf]; omega⟩
      · have hxi : ¬ (b[j].toNat : Int) < 128 := by omega
        by_cases h2 : b.length < j + 2
        · have g2 : (b.length : Int) - j < 2 := by omega
          have HN : Hid (decT tx b = none) := Lib.hid (by
            rw [HD.out, hd0, show b.drop (j + 1) = [] from List.drop_eq_nil_of_le (by omega), decT_short hx]
            rfl)
          have HPN : Hid ((j : Int) = plT tx 0 b) := Lib.hid (by rw [HPL.out, hd0, show b.drop (j + 1) = [] from List.drop_eq_nil_of_le (by omega), plT_short hx])
          clear hd0 HD HPL h2
          obtain ⟨y0, y1⟩ := cells2 (F.out); obtain ⟨yf0, yf1⟩ := frees2 (F.out)
          go_wp2
          have hw1 : w.heap.size ≤ rb := by have := HRB.out; omega
          refine end_tmp_cell (by rfl) rfl (by rfl) (store2 F.out rfl) Tryz.underlying26 rfl (by kernel_rfl) ?_
          exact ⟨[], 2, j, rfl, .inr ⟨HN.out, rfl, rfl, HPN.out⟩, (K.out.setCell hw1 _).setCell hw1 _⟩
        · have g2 : ¬ (b.length : Int) - j < 2 := by omega
          obtain ⟨q, hq⟩ : ∃ q, q = j + 1 := ⟨_, rfl⟩
          have hqb : q < b.length := by omega
          have hqi : (q : Int) < b.length := by omega
          have hd1 : b.drop j = b[j] :: b[q] :: b.drop (j + 2) := by
            rw [hd0]
            subst hq
            rw [List.drop_eq_getElem_cons hqb]
          have hy9 := UInt8.toNat_lt b[q]
          have HD2 : Hid (decT tx b = (if tx b[j] b[q] = [] then none else (decT tx (b.drop (j + 2))).map ((acc ++ tx b[j] b[q]) ++ ·))) := Lib.hid (by
            rw [HD.out, hd1, decT_two hx]
            split
            · rfl
            · rw [map_app])
          have HPT : Hid (plT tx 0 b = (if tx b[j] b[q] = [] then j else plT tx (j + 2) (b.drop (j + 2)))) := Lib.hid (by rw [HPL.out, hd1, plT_two hx])
          have hji : (j : Int) + 1 = (q : Int) := by omega
          have hqj : (q : Int) + 1 = (j : Int) + 2 := by omega
          have HQ := Lib.hid hq
          have HSZ := Lib.hid hwb
          clear hd0 hd1 HD HPL hq
          have HX := Lib.hid hx
          clear hx h2 hqj
          generalize hxx : b[j] = x at *
          generalize hyy : b[q] = y at *
          go_upto_region 10 with (fail)
          go_region
          have X := Lib.hid (show ((wr.alloc (.cells #[.int .u8 x.toNat, .int .u8 y.toNat] 91)).drew).heap[wr.heap.size]? = some (.cells #[.int .u8 x.toNat, .int .u8 y.toNat] 91 (0, 0)) from at_a0 wr _ _)
          have hb3 := ((Below.refl wr.heap.size wr).alloc (Nat.le_refl _) (.cells #[.int .u8 x.toNat, .int .u8 y.toNat] 91)).drew
          replace hwb := Nat.le_trans hwb hb3.size
          replace V := Lib.hid (V.out.below hb3); replace MP := Lib.hid (MP.out.below hb3); replace F := Lib.hid (block_below F.out hb3); replace K := Lib.hid (nextB K.out hb3); clear hb3
          generalize (wr.alloc (.cells #[.int .u8 x.toNat, .int .u8 y.toNat] 91)).drew = w6 at *
          have HTB : Hid (rb + 2 ≤ wr.heap.size) := HSZ
          generalize wr.heap.size = tb at *
          clear HSZ
          have HSXY := Lib.hid (HS.out x y)
          have hsl := HTL.out x y
          have HGF : Hid (∀ s, g (x, y) = some s → s = tx x y) := Lib.hid (fun s h => HG.out (x, y) s h)
          have HGN : Hid (∀ k s, (fun q => if q = (x, y) then some (tx x y) else g q) k = some s → s = tx k.1 k.2) := Lib.hid (fun k s h => by
            simp only at h
            split at h
            · rename_i e
              rw [← Option.some.inj h, e]
            · exact HG.out k s h)
          have HS' := HS
          have HTL' := HTL
          clear HS HTL
          obtain ⟨s, hs⟩ : ∃ s, s = tx x y := ⟨_, rfl⟩
          rw [← hs] at HSXY hsl HGF HGN HD2 HPT
          clear hs
          obtain ⟨y0, y1⟩ := cells2 (X.out)
          rcases hg : g (x, y) with _ | s'
          · have HGX := Lib.hid hg
            clear hg HGF
            go_upto_region 13 with (at_lookup; refine wpList_look (M := (M2B 90 91 76 Tryz.underlying90 law2 key2_some (fun w => by kernel_rfl) : MK Tryz.prog (UInt8 × UInt8) (List UInt8))) rfl _ _ rfl MP.out (x, y) trivial rfl rfl (.agg #[.string ⟨#[]⟩]) false (by rw [HGX.out]; rfl) (by rw [HGX.out]; rfl) ?_)
            have SB := Lib.hid (at_a0 w6 #[.string ⟨#[]⟩] 76)
            have HVS : Hid (∀ k, u7.ownBlock = some k → k < w6.heap.size) := Lib.hid (fun k e => (V.out.lt k e).2)
            have htb : tb < w6.heap.size := (Array.getElem?_eq_some_iff.1 X.out).1
            have hb3 := (Below.refl w6.heap.size w6).alloc (Nat.le_refl _) (.cells #[.string ⟨#[]⟩] 76)
            replace X := Lib.hid (block_below X.out hb3)
            have hwb7 := Nat.le_trans hwb hb3.size
            replace V := Lib.hid (V.out.below hb3); replace MP := Lib.hid (MP.out.below hb3); replace F := Lib.hid (block_below F.out hb3); replace K := Lib.hid (nextB K.out hb3); clear hb3
            generalize w6.alloc (.cells #[.string ⟨#[]⟩] 76) = w7 at *
            generalize w6.heap.size = sb at *
            clear y0 y1
            obtain ⟨y0, y1⟩ := cells2 (X.out)
            go_upto_region 14 with (go_at_call 56; (with_reducible refine (HSXY.out _ (Lib.hid (hD.out.below K.out))).mono ?_); rintro e w8 ⟨rfl, hb3⟩; replace X := Lib.hid (block_below X.out hb3); replace SB := Lib.hid (block_below SB.out hb3); have hwb8 := Nat.le_trans hwb7 hb3.size; replace V := Lib.hid (V.out.below hb3); replace MP := Lib.hid (MP.out.below hb3); replace F := Lib.hid (block_below F.out hb3); replace K := Lib.hid (nextB K.out hb3); clear hb3; clear y0 y1; have s0 := cells1 SB.out; have sf0 : w8.frozen? ⟨sb, 0, none⟩ = false := free_at SB.out)
            clear s0 sf0
            have SB9 : Hid ((w8.setCell ⟨sb, 0, none⟩ (.string ⟨s.toArray⟩)).heap[sb]? = some (.cells #[.string ⟨s.toArray⟩] 76 (0, 0))) := Lib.hid (setCell_at (j := 0) (v := .string ⟨s.toArray⟩) SB.out)
            have X9 : Hid ((w8.setCell ⟨sb, 0, none⟩ (.string ⟨s.toArray⟩)).heap[tb]? = some (.cells #[.int .u8 x.toNat, .int .u8 y.toNat] 91 (0, 0))) := Lib.hid ((heap_set_other _ (by omega)).trans X.out)
            have F9 : Hid ((w8.setCell ⟨sb, 0, none⟩ (.string ⟨s.toArray⟩)).heap[rb]? = some (.cells #[.int .i64 0, .int .i64 0] 26 (0, 0))) := Lib.hid ((heap_set_other _ (by omega)).trans F.out)
            have V9 : Hid (Buf (w8.setCell ⟨sb, 0, none⟩ (.string ⟨s.toArray⟩)) (rb + 2) 5 u7 acc) := Lib.hid (V.out.kept (row := some sb) (Only.set (b := sb) (.string ⟨s.toArray⟩)) (.inr (fun e => by have := HVS.out sb e; omega)))
            have MP9 := Lib.hid (MP.out.setCell (c := sb) (j := 0) (v := .string ⟨s.toArray⟩) (by omega))
            have K9 : Hid (Below w.heap.size w (w8.setCell ⟨sb, 0, none⟩ (.string ⟨s.toArray⟩))) := Lib.hid (K.out.setCell (show w.heap.size ≤ sb by have := HRB.out; omega) (.string ⟨s.toArray⟩))
            have hwb9 : rb + 2 ≤ (w8.setCell ⟨sb, 0, none⟩ (.string ⟨s.toArray⟩)).heap.size := by simpa using hwb8
            clear SB X F V MP K
            generalize w8.setCell ⟨sb, 0, none⟩ (.string ⟨s.toArray⟩) = w9 at *
            obtain ⟨y0, y1⟩ := cells2 (X9.out)
            have s0 := cells1 SB9.out
            go_upto_region 15 with (at_mapUpdate; refine wpList_put (M := (M2B 90 91 76 Tryz.underlying90 law2 key2_some (fun w => by kernel_rfl) : MK Tryz.prog (UInt8 × UInt8) (List UInt8))) rfl _ _ _ rfl MP9.out (by unfold maxLen; omega) (x, y) trivial s trivial rfl rfl rfl ?_; intro wt hm7 hg7; have MPX : Hid (∃ gg nn, nn ≤ j + 1 ∧ Hid (∀ k s, gg k = some s → s = tx k.1 k.2) ∧ Hid (MapAt (M2B 90 91 76 Tryz.underlying90 law2 key2_some (fun w => by kernel_rfl) : MK Tryz.prog (UInt8 × UInt8) (List UInt8)) wt (rb + 1) nn gg)) := Lib.hid ⟨_, n + 1, by omega, HGN, Lib.hid hm7⟩; have HG7 := Lib.hid hg7; clear hm7 hg7)
            have F := Lib.hid (block_only F9.out HG7.out (by omega))
            have SB := Lib.hid (block_only SB9.out HG7.out (by omega))
            have V := Lib.hid (V9.out.kept HG7.out (.inr (fun e => by have := (V9.out.lt (rb + 1) e).1; omega)))
            have K := Lib.hid (onlyB K9.out HG7.out (by have := HRB.out; omega))
            have hwb : rb + 2 ≤ wt.heap.size := Nat.le_trans hwb9 HG7.out.size
            clear s0 y0 y1 SB9 X9 F9 V9 MP9 K9 HGN HSXY HG7
            obtain ⟨gg, nn, hnn, HGG, MP⟩ := MPX.out
            clear MPX
            have s0 := cells1 SB.out
            by_cases htx : s = []
            · have HN : Hid (decT tx b = none) := Lib.hid (by rw [HD2.out, if_pos htx])
              have HPN : Hid ((j : Int) = plT tx 0 b) := Lib.hid (by rw [HPT.out, if_pos htx])
              subst htx
              clear HD2 HPT
              obtain ⟨y0, y1⟩ := cells2 (F.out); obtain ⟨yf0, yf1⟩ := frees2 (F.out)
              go_wp2
              have hw1 : w.heap.size ≤ rb := by have := HRB.out; omega
              refine end_tmp_cell (by rfl) rfl (by rfl) (store2 F.out rfl) Tryz.underlying26 rfl (by kernel_rfl) ?_
              exact ⟨[], 2, j, rfl, .inr ⟨HN.out, rfl, rfl, HPN.out⟩, (K.out.setCell hw1 _).setCell hw1 _⟩
            · have HN : Hid (decT tx b = (decT tx (b.drop (j + 2))).map ((acc ++ s) ++ ·)) := Lib.hid (by rw [HD2.out, if_neg htx])
              have HPN : Hid (plT tx 0 b = plT tx (j + 2) (b.drop (j + 2))) := Lib.hid (by rw [HPT.out, if_neg htx])
              obtain ⟨e1, e2, e3⟩ := told_ne htx
              clear HD2 HPT htx
              have L5 := Lib.hid V.out.lt
              go_wp2_with (at_builtin; refine wpList_pushS wt rfl (.tmp 67) (.tmp 69) 35 9 rfl (rb + 2) 5 Tryz.underlying35 Tryz.underlying9 info_u8' _ acc s rfl V.out (by rfl) (by omega) hwb ?_; intro v5 w5 hr5 hg5; have V5 := Lib.hid hr5; have HG5 := Lib.hid hg5; clear hr5 hg5)
              have KG := Lib.hid (pk_grown (Below.refl (rb + 2) wt) HG5.out (fun k e => (L5.out k e).1) hwb)
              exact ⟨⟨j + 2, acc ++ s, by omega, by simp, HN, HPN, by simp; omega, V5, ⟨gg, nn, by omega, HGG, Lib.hid (MP.out.kept HG5.out (fun e => by have := (L5.out (rb + 1) e.symm).1; omega))⟩, Lib.hid ((KG.out.block rb (by omega)).trans F.out), Lib.hid (K.out.trans (KG.out.mono (by have := HRB.out; omega)))⟩, by simp [intOf]; omega⟩
          · have e := (HGF.out s' hg).symm
            subst e
            have HGX := Lib.hid hg
            clear hg HGF
            go_upto_region 15 with (at_lookup; refine wpList_look (M := (M2B 90 91 76 Tryz.underlying90 law2 key2_some (fun w => by kernel_rfl) : MK Tryz.prog (UInt8 × UInt8) (List UInt8))) rfl _ _ rfl MP.out (x, y) trivial rfl rfl (.agg #[.string ⟨s.toArray⟩]) true (by rw [HGX.out]; rfl) (by rw [HGX.out]; rfl) ?_)
            have SB := Lib.hid (at_a0 w6 #[.string ⟨s.toArray⟩] 76)
            have hb3 := (Below.refl w6.heap.size w6).alloc (Nat.le_refl _) (.cells #[.string ⟨s.toArray⟩] 76)
            replace hwb := Nat.le_trans hwb hb3.size
            replace V := Lib.hid (V.out.below hb3); replace MP := Lib.hid (MP.out.below hb3); replace F := Lib.hid (block_below F.out hb3); replace K := Lib.hid (nextB K.out hb3); clear hb3
            clear y0 y1 X
            generalize w6.alloc (.cells #[.string ⟨s.toArray⟩] 76) = wt at *
            generalize w6.heap.size = sb at *
            have MPX : Hid (∃ gg nn, nn ≤ j + 1 ∧ Hid (∀ k s, gg k = some s → s = tx k.1 k.2) ∧ Hid (MapAt (M2B 90 91 76 Tryz.underlying90 law2 key2_some (fun w => by kernel_rfl) : MK Tryz.prog (UInt8 × UInt8) (List UInt8)) wt (rb + 1) nn gg)) := Lib.hid ⟨g, n, by omega, HG, MP⟩
            clear HGN HSXY MP
            obtain ⟨gg, nn, hnn, HGG, MP⟩ := MPX.out
            clear MPX
            have s0 := cells1 SB.out
            by_cases htx : s = []
            · have HN : Hid (decT tx b = none) := Lib.hid (by rw [HD2.out, if_pos htx])
              have HPN : Hid ((j : Int) = plT tx 0 b) := Lib.hid (by rw [HPT.out, if_pos htx])
              subst htx
              clear HD2 HPT
              obtain ⟨y0, y1⟩ := cells2 (F.out); obtain ⟨yf0, yf1⟩ := frees2 (F.out)
              go_wp2
              have hw1 : w.heap.size ≤ rb := by have := HRB.out; omega
              refine end_tmp_cell (by rfl) rfl (by rfl) (store2 F.out rfl) Tryz.underlying26 rfl (by kernel_rfl) ?_
              exact ⟨[], 2, j, rfl, .inr ⟨HN.out, rfl, rfl, HPN.out⟩, (K.out.setCell hw1 _).setCell hw1 _⟩
            · have HN : Hid (decT tx b = (decT tx (b.drop (j + 2))).map ((acc ++ s) ++ ·)) := Lib.hid (by rw [HD2.out, if_neg htx])
              have HPN : Hid (plT tx 0 b = plT tx (j + 2) (b.drop (j + 2))) := Lib.hid (by rw [HPT.out, if_neg htx])
              obtain ⟨e1, e2, e3⟩ := told_ne htx
              clear HD2 HPT htx
              have L5 := Lib.hid V.out.lt
              go_wp2_with (at_builtin; refine wpList_pushS wt rfl (.tmp 67) (.tmp 69) 35 9 rfl (rb + 2) 5 Tryz.underlying35 Tryz.underlying9 info_u8' _ acc s rfl V.out (by rfl) (by omega) hwb ?_; intro v5 w5 hr5 hg5; have V5 := Lib.hid hr5; have HG5 := Lib.hid hg5; clear hr5 hg5)
              have KG := Lib.hid (pk_grown (Below.refl (rb + 2) wt) HG5.out (fun k e => (L5.out k e).1) hwb)
              exact ⟨⟨j + 2, acc ++ s, by omega, by simp, HN, HPN, by simp; omega, V5, ⟨gg, nn, by omega, HGG, Lib.hid (MP.out.kept HG5.out (fun e => by have := (L5.out (rb + 1) e.symm).1; omega))⟩, Lib.hid ((KG.out.block rb (by omega)).trans F.out), Lib.hid (K.out.trans (KG.out.mono (by have := HRB.out; omega)))⟩, by simp [intOf]; omega⟩
    · have g1 : ¬ (j : Int) < b.length := by omega
      have hd0 : b.drop j = [] := List.drop_eq_nil_of_le (by omega)
      have HE : Hid (decT tx b = some acc) := Lib.hid (by rw [HD.out, hd0]; simp [decT])
      have hcv := ownsRow_bytes (P := Tryz.prog) (src := 35) (dst := 9) (show World.ownsRow _ _ _ _ _ _ _ from V.out) Tryz.underlying35 Tryz.underlying5 Tryz.underlying9
      clear hd0 HD HPL
      obtain ⟨y0, y1⟩ := cells2 (F.out); obtain ⟨yf0, yf1⟩ := frees2 (F.out)
      go_wp2
      have hw1 : w.heap.size ≤ rb := by have := HRB.out; omega
      refine end_tmp_cell (by rfl) rfl (by rfl) (store2 F.out rfl) Tryz.underlying26 rfl (by kernel_rfl) ?_
      exact ⟨acc, 0, 0, rfl, .inl ⟨HE.out, rfl, rfl⟩, (K.out.setCell hw1 _).setCell hw1 _⟩
end Go.Proofs.YtffhmjlojmoomaaGreatDoor

namespace Go.Proofs.YtffhmjlojmoomaaGreatDoor
open Go.RowKit Go.Maps
set_option linter.unusedVariables false
set_option linter.unusedSimpArgs false

/-- the bytes of a sign, by the charset's number -/
def btC (C : Cst) (c p : Nat) : List UInt8 := if c = 4 then wTxt C p else jTxt p
theorem bigL2_len (c : Nat) : (bigL c 2).length = 2 := by rfl
theorem btC_len (C : Cst) (c p : Nat) : (btC C c p).length ≤ 2 := by
  unfold btC wTxt jTxt
  split <;> split <;> simp [bigL2_len]
/-- the bytes of signs, where a sign is written as bt tells -/
def encT (bt : Nat → List UInt8) : List Nat → Option (List UInt8)
  | [] => some []
  | p :: ps => if p < 128 then (encT bt ps).map (UInt8.ofNat p :: ·) else if bt p = [] then none else (encT bt ps).map (bt p ++ ·)
theorem encT_app (bt : Nat → List UInt8) (p : Nat) (r : List Nat) : ∀ (l : List Nat) (bs : List UInt8), encT bt l = some bs → encT bt (l ++ p :: r) = (encT bt (p :: r)).map (bs ++ ·)
  | [], bs, h => by
    obtain rfl := Option.some.inj h
    simp
  | q :: l, bs, h => by
    unfold encT at h
    rw [List.cons_append, encT]
    split at h
    · rename_i hq
      obtain ⟨cs, hcs, rfl⟩ := Option.map_eq_some_iff.1 h
      rw [if_pos hq, encT_app bt p r l cs hcs]
      rcases encT bt (p :: r) with _ | z <;> simp
    split at h
    · cases h
    · rename_i hq hb
      obtain ⟨cs, hcs, rfl⟩ := Option.map_eq_some_iff.1 h
      rw [if_neg hq, if_neg hb, encT_app bt p r l cs hcs]
      rcases encT bt (p :: r) with _ | z <;> simp
theorem encT_snoc (bt : Nat → List UInt8) (p : Nat) (l : List Nat) (bs : List UInt8) (h : encT bt l = some bs) : encT bt (l ++ [p]) = if p < 128 then some (bs ++ [UInt8.ofNat p]) else if bt p = [] then none else some (bs ++ bt p) := by
  rw [encT_app bt p [] l bs h]
  unfold encT
  split
  · simp [encT]
  split
  · rfl
  · simp [encT]
theorem encT_none (bt : Nat → List UInt8) (p : Nat) (r l : List Nat) (bs : List UInt8) (h : encT bt l = some bs) (hp : ¬ p < 128) (hb : bt p = []) : encT bt (l ++ p :: r) = none := by
  rw [encT_app bt p r l bs h]
  unfold encT
  rw [if_neg hp, if_pos hb]
  rfl
set_option maxHeartbeats 4000000 in
set_option maxRecDepth 100000 in
theorem cenc2_any (C : Cst) (hC : Hid (CstOk C)) (c : Nat) (hc : c = 4 ∨ c = 5) (t : List UInt8) (ht : t.length ≤ 1000000) (w : World) (hT : Hid (Tabs w)) (m : Int) (hm : Hid (Mx m w)) : Calls Tryz.prog 19 #[.int .i64 c, .string ⟨t.toArray⟩] w fun e w' => ∃ (b : List UInt8) (cd pl : Int), e = .returned (.tuple #[.string ⟨b.toArray⟩, .agg #[.int .i64 cd, .int .i64 pl]]) ∧ ((¬ Good t ∧ b = [] ∧ cd = 2) ∨ ∃ ps, (∀ p ∈ ps, Sc p) ∧ t = encs ps ∧ ((encT (btC C c) ps = some b ∧ cd = 0 ∧ pl = 0) ∨ (encT (btC C c) ps = none ∧ b = [] ∧ cd = 6))) ∧ Below w.heap.size w w' := by
  have PC := Lib.hid (fun w h => pcheck_two t (by omega) w h)
  have hmm := @run_makeMap Tryz.prog
  have HW : Hid (c = 4 → ∀ p : Nat, (p : Int) ≤ 1114111 → ∀ w, Mx m w → Calls Tryz.prog 38 #[.int .i32 p] w fun e w' => ∃ ok, e = .returned (.tuple #[.string ⟨(btC C c p).toArray⟩, .bool ok]) ∧ Below w.heap.size w w') := Lib.hid (fun hc p hp w hm => (wbytes_any C hC p hp m w (Lib.hid hm)).mono fun e w' h => ⟨_, by rw [hc]; exact h.1, h.2⟩)
  have HJ : Hid (c = 5 → ∀ p : Nat, (p : Int) ≤ 1114111 → ∀ w, Calls Tryz.prog 36 #[.int .i32 p] w fun e w' => ∃ ok, e = .returned (.tuple #[.string ⟨(btC C c p).toArray⟩, .bool ok]) ∧ Below w.heap.size w w') := Lib.hid (fun hc p hp w => (jbytes_any p (by omega) w).mono fun e w' h => ⟨_, by rw [hc]; exact h.1, h.2⟩)
  have HBL : Hid (∀ p, (btC C c p).length ≤ 2) := Lib.hid (fun p => btC_len C c p)
  generalize btC C c = bt at *
  have F := Lib.hid (at_a0 w #[.int .i64 0, .int .i64 0] 26)
  have K := Lib.hid ((Below.refl w.heap.size w).alloc (Nat.le_refl _) (.cells #[.int .i64 0, .int .i64 0] 26))
  obtain ⟨rb, hrb⟩ : ∃ rb, rb = w.heap.size := ⟨_, rfl⟩
  go_enter Tryz.func19, Tryz.ntmps19
  go_upto_region 1 with (fail)
  generalize w.alloc (.cells #[.int .i64 0, .int .i64 0] 26) = w0 at *
  rw [← hrb] at F
  rw [← hrb]
  have HRB := Lib.hid hrb
  clear hrb
  have HT0 := Lib.hid (hT.out.below K.out)
  go_upto_region 2 with (go_at_call 21; (with_reducible refine (PC.out _ HT0).mono ?_); rintro e w1 ⟨cd, fa, rfl, hcd, hb1⟩; have HCD := Lib.hid hcd.out; replace F := Lib.hid (block_below F.out hb1); replace K := Lib.hid (nextB K.out hb1); clear hcd hb1)
  have C := Lib.hid (at_a0 w1 #[.int .i64 cd, .int .i64 fa] 26)
  have hB := (Below.refl w1.heap.size w1).alloc (Nat.le_refl _) (.cells #[.int .i64 cd, .int .i64 fa] 26)
  have hrc : rb < w1.heap.size := (Array.getElem?_eq_some_iff.1 F.out).1
  replace F := Lib.hid (block_below F.out hB)
  replace K := Lib.hid (nextB K.out hB)
  clear hB
  generalize w1.alloc (.cells #[.int .i64 cd, .int .i64 fa] 26) = w2 at *
  generalize w1.heap.size = cb at *
  have BD := Lib.hid (fun w => bad_any cd fa w)
  rcases HCD.out with ⟨hgood, rfl, rfl⟩ | ⟨hbad, rfl⟩
  · rw [show ((0 : Int) != 0) = false by rfl] at BD
    obtain ⟨ps, hps, rfl⟩ := hgood
    have HPS := Lib.hid hps
    clear hps HCD PC
    have hpl := encs_ge ps
    obtain ⟨y0, y1⟩ := cells2 (C.out)
    go_upto_region 4 with (go_at_call 7; (with_reducible refine (BD.out _).mono ?_); rintro e w3 ⟨rfl, hb3⟩; replace F := Lib.hid (block_below F.out hb3); replace K := Lib.hid (nextB K.out hb3); clear hb3 y0 y1 C)
    go_upto_region 5 with (fail)
    have MP := Lib.hid (MapAt.made (MRT 74 21 76 Tryz.underlying74 Tryz.underlying21 (fun w => by kernel_rfl) : MK Tryz.prog Nat (List UInt8)) w3)
    have hmb9 : rb < w3.heap.size := (Array.getElem?_eq_some_iff.1 F.out).1
    have hB := (Below.refl w3.heap.size w3).alloc (Nat.le_refl _) (.map #[] 0)
    replace F := Lib.hid (block_below F.out hB)
    replace K := Lib.hid (nextB K.out hB)
    have hz4 : (w3.alloc (.map #[] 0)).heap.size = w3.heap.size + 1 := by simp
    clear hB
    generalize w3.alloc (.map #[] 0) = w4 at *
    generalize w3.heap.size = mb at *
    have HZ4 := Lib.hid hz4
    clear hz4
    go_upto_region 7 with (fail)
    obtain ⟨ib, hib⟩ : ∃ ib, ib = w4.heap.size := ⟨_, rfl⟩
    have I : Hid ((w4.iter ⟨(encs ps).toArray⟩ 0).heap[ib]? = some (.stringIter ⟨(encs ps).toArray⟩ 0)) := Lib.hid (by rw [hib]; exact World.iter_heap _ _ _)
    have hB : Below w4.heap.size w4 (w4.iter ⟨(encs ps).toArray⟩ 0) := (Below.refl w4.heap.size w4).alloc (Nat.le_refl _) _
    replace MP := Lib.hid (MP.out.below hB)
    replace F := Lib.hid (block_below F.out hB)
    replace K := Lib.hid (nextB K.out hB)
    rw [← hib]
    have hrbib : mb + 1 ≤ ib := by have := HZ4.out; omega
    clear hB hib
    generalize w4.iter ⟨(encs ps).toArray⟩ 0 = w8 at *
    have hps0 : (encs ([] : List Nat)).length = 0 := rfl
    go_loopw [8] (fun v wr => ∃ (qs rs : List Nat) (bs : List UInt8), Hid (ps = qs ++ rs) ∧ qs.length + rs.length = ps.length ∧ Hid (encT bt qs = some bs) ∧ bs.length ≤ 2 * qs.length ∧ Hid (wr.heap[ib]? = some (.stringIter ⟨(encs ps).toArray⟩ (encs qs).length)) ∧ Hid (wr.heap[rb]? = some (.cells #[.int .i64 0, .int .i64 0] 26 (0, 0))) ∧ Hid (Buf wr (mb + 1) 5 v bs) ∧ (∃ g n, n ≤ qs.length ∧ Hid (∀ k s, g k = some s → s = bt k) ∧ Hid (MapAt (MRT 74 21 76 Tryz.underlying74 Tryz.underlying21 (fun w => by kernel_rfl) : MK Tryz.prog Nat (List UInt8)) wr mb n g)) ∧ Hid (Below w.heap.size w wr)) (fun _ wr => (encs ps).length + 1 - wr.iterPos ib)
    case atStart => exact ⟨[], ps, [], Lib.hid rfl, by simp, Lib.hid rfl, by simp, I, F, Lib.hid (Buf.nil _ _ _), ⟨_, 0, by simp, Lib.hid (fun k s h => by cases h), MP⟩, K⟩
    case round =>
      clear I F MP K
      obtain ⟨qs, rs, bs, HP, hql, HE, hbl, I, F, V, ⟨g, n, hn, HG, MP⟩, K⟩ := hrel
      rcases rs with _ | ⟨p, rs⟩
      · have hps := HP.out
        rw [List.append_nil] at hps
        have hnx : ∀ ty, (Instr.next (.pointer (some ⟨ib, 0, none⟩)) true ty).run Tryz.prog wr = .ok (.tuple #[.bool false]) wr := fun ty => by
          have I9 := I.out
          rw [hps] at I9
          exact iter_end (P := Tryz.prog) wr ib qs ty I9
        have HE2 : Hid (encT bt ps = some bs) := Lib.hid (by rw [hps]; exact HE.out)
        have hcv := ownsRow_bytes (P := Tryz.prog) (src := 35) (dst := 9) (show World.ownsRow _ _ _ _ _ _ _ from V.out) Tryz.underlying35 Tryz.underlying5 Tryz.underlying9
        clear hps
        obtain ⟨y0, y1⟩ := cells2 (F.out); obtain ⟨yf0, yf1⟩ := frees2 (F.out)
        go_wp2
        have hw1 : w.heap.size ≤ rb := by have := HRB.out; omega
        refine end_tmp_cell (by rfl) rfl (by rfl) (store2 F.out rfl) Tryz.underlying26 rfl (by kernel_rfl) ?_
        exact ⟨bs, 0, 0, rfl, .inr ⟨ps, HPS.out, rfl, .inl ⟨HE2.out, rfl, rfl⟩⟩, (K.out.setCell hw1 _).setCell hw1 _⟩
      · have hsc := HPS.out p (by rw [HP.out]; simp)
        have hp9 : p ≤ 1114111 := by unfold Sc at hsc; omega
        have hnx : ∀ ty, (Instr.next (.pointer (some ⟨ib, 0, none⟩)) true ty).run Tryz.prog wr = .ok (.tuple #[.bool true, .int .i64 ((encs qs).length : Nat), .int .i32 p]) (wr.iterAt ib ⟨(encs ps).toArray⟩ ((encs (qs ++ [p])).length)) := fun ty => by
          have h := iter_step (P := Tryz.prog) wr ib qs p rs hsc ty (by rw [← HP.out]; exact I.out)
          rw [← HP.out] at h
          exact h
        have I2 := Lib.hid (Lib.iterAt_heap wr ib ⟨(encs ps).toArray⟩ (encs qs).length (encs (qs ++ [p])).length I.out)
        have hri : rb ≠ ib := by omega
        have F2 : Hid ((wr.iterAt ib ⟨(encs ps).toArray⟩ ((encs (qs ++ [p])).length)).heap[rb]? = some (.cells #[.int .i64 0, .int .i64 0] 26 (0, 0))) := Lib.hid (block_iterAt F.out hri)
        have V2 := Lib.hid (V.out.iterAt I.out ((encs (qs ++ [p])).length))
        have MP2 := Lib.hid (MP.out.iterAt I.out ((encs (qs ++ [p])).length))
        have K2 := Lib.hid (Lib.below_iterAt K.out (show w.heap.size ≤ ib by have := HRB.out; omega) ⟨(encs ps).toArray⟩ ((encs (qs ++ [p])).length))
        have hm1 : (encs qs).length < (encs (qs ++ [p])).length ∧ (encs (qs ++ [p])).length ≤ (encs ps).length := by
          have := encR_len p
          rw [HP.out, encs_snoc, encs_app, encs_cons, List.length_append, List.length_append, List.length_append]
          omega
        have hpos : wr.iterPos ib = (encs qs).length := by unfold World.iterPos; rw [I.out]
        have HM := Lib.hid (show (encs ps).length + 1 - (encs (qs ++ [p])).length < (encs ps).length + 1 - wr.iterPos ib by rw [hpos]; omega)
        have hql2 : qs.length < ps.length := by simp at hql; omega
        have hsz : (wr.iterAt ib ⟨(encs ps).toArray⟩ ((encs (qs ++ [p])).length)).heap.size = wr.heap.size := Lib.iterAt_size _ _ _ _
        have his : ib < wr.heap.size := (Array.getElem?_eq_some_iff.1 I.out).1
        have HR : Hid (ps = qs ++ p :: rs) := HP
        have hbs9 : bs.length ≤ 3000000 := by omega
        clear hm1 hpos I F V MP K hsc
        go_upto_region 8 with (fail)
        clear hnx
        generalize hw6 : wr.iterAt ib ⟨(encs ps).toArray⟩ ((encs (qs ++ [p])).length) = w9 at *
        clear hw6
        have his9 : ib < w9.heap.size := by omega
        have hwb : mb + 1 ≤ w9.heap.size := by omega
        clear hsz
        obtain ⟨pq, hpq⟩ : ∃ pq, pq = (encs qs).length := ⟨_, rfl⟩
        rw [← hpq]
        clear hpq
        have hp9i : (p : Int) ≤ 1114111 := by omega
        by_cases hlow : p < 128
        · have g0 : (p : Int) < 128 := by omega
          have HE2 : Hid (encT bt (qs ++ [p]) = some (bs ++ [UInt8.ofNat p])) := Lib.hid (by rw [encT_snoc bt p qs bs HE.out, if_pos hlow])
          have hu8 : IntKind.u8.wrap (p : Int) = ((UInt8.ofNat p).toNat : Int) := by
            rw [UInt8.toNat_ofNat', Nat.mod_eq_of_lt (by omega)]
            simp [IntKind.wrap, IntKind.bits, IntKind.signed]
            omega
          have HU8 := Lib.hid (show (p : Int) = ((UInt8.ofNat p).toNat : Int) by rw [UInt8.toNat_ofNat', Nat.mod_eq_of_lt (by omega)])
          have l5 := V2.out.lt
          have L5 := Lib.hid l5
          have HNI := Lib.hid (buf_ne_iter V2.out I2.out)
          clear l5 hlow
          go_upto_region 10 with (fail)
          go_wp2_with (at_builtin; refine wpList_push w9 rfl (.tmp 27) (.tmp 30) 35 rfl (mb + 1) 5 Tryz.underlying35 info_u8' _ bs (UInt8.ofNat p) _ (by first | rfl | (rw [← hu8]; rfl) | exact congrArg (Value.int .u8) HU8.out) (by rfl) V2.out (by rfl) (by omega) hwb _ ?_; intro v5 w5 hr5 hg5; have V5 := Lib.hid hr5; have HG5 := Lib.hid hg5; clear hr5 hg5)
          have KG := Lib.hid (pk_grown (Below.refl (mb + 1) w9) HG5.out (fun k e => (L5.out k e).1) hwb)
          have I5 := Lib.hid ((HG5.out.block ib his9 HNI.out).trans I2.out)
          refine ⟨⟨qs ++ [p], rs, bs ++ [UInt8.ofNat p], Lib.hid (by rw [List.append_assoc]; exact HR.out), by simp at hql ⊢; omega, HE2, by simp; omega, I5, Lib.hid ((KG.out.block rb (by omega)).trans F2.out), V5, ⟨g, n, by simp; omega, HG, Lib.hid (MP2.out.kept HG5.out (fun e => by have := (L5.out mb e.symm).1; omega))⟩, Lib.hid (K2.out.trans (KG.out.mono (by have := HRB.out; omega)))⟩, ?_⟩
          have hpos7 : w5.iterPos ib = (encs (qs ++ [p])).length := by unfold World.iterPos; rw [I5.out]
          rw [hpos7]
          exact HM.out
        · have g0 : ¬ (p : Int) < 128 := by omega
          have HPL := Lib.hid hlow
          clear hlow
          have HGF : Hid (∀ s, g p = some s → s = bt p) := Lib.hid (fun s h => HG.out p s h)
          have HGN : Hid (∀ k s, (fun q => if q = p then some (bt p) else g q) k = some s → s = bt k) := Lib.hid (fun k s h => by
            simp only at h
            split at h
            · rename_i e
              rw [← Option.some.inj h, e]
            · exact HG.out k s h)
          have hsl := HBL.out p
          have HW2 := Lib.hid (fun h w hm => HW.out h p hp9i w hm)
          have HJ2 := Lib.hid (fun h w => HJ.out h p hp9i w)
          have HW' := HW
          have HJ' := HJ
          have HBL' := HBL
          clear HW HJ HBL
          obtain ⟨s, hs⟩ : ∃ s, s = bt p := ⟨_, rfl⟩
          rw [← hs] at HW2 HJ2 hsl HGF HGN
          have HSE := Lib.hid hs
          clear hs
          go_upto_region 11 with (fail)
          rcases hg : g p with _ | s'
          · have HGX := Lib.hid hg
            clear hg HGF
            go_upto_region 13 with (at_lookup; refine wpList_look (M := (MRT 74 21 76 Tryz.underlying74 Tryz.underlying21 (fun w => by kernel_rfl) : MK Tryz.prog Nat (List UInt8))) rfl _ _ rfl MP2.out p hp9 rfl rfl (.agg #[.string ⟨#[]⟩]) false (by rw [HGX.out]; rfl) (by rw [HGX.out]; rfl) ?_)
            have SB := Lib.hid (at_a0 w9 #[.string ⟨#[]⟩] 76)
            have HVS : Hid (∀ k, u8.ownBlock = some k → k < w9.heap.size) := Lib.hid (fun k e => (V2.out.lt k e).2)
            have hb3 := (Below.refl w9.heap.size w9).alloc (Nat.le_refl _) (.cells #[.string ⟨#[]⟩] 76)
            have hwb7 := Nat.le_trans hwb hb3.size
            have his7 := Nat.lt_of_lt_of_le his9 hb3.size
            replace I2 := Lib.hid (block_below I2.out hb3); replace V2 := Lib.hid (V2.out.below hb3); replace MP2 := Lib.hid (MP2.out.below hb3); replace F2 := Lib.hid (block_below F2.out hb3); replace K2 := Lib.hid (nextB K2.out hb3); clear hb3
            generalize w9.alloc (.cells #[.string ⟨#[]⟩] 76) = w7 at *
            generalize w9.heap.size = sb at *
            rcases hc with hc4 | hc5
            · have HW3 := Lib.hid (HW2.out hc4)
              have d1 : ((c : Int) == 4) = true := by simp; omega
              have d2 : decide ((c : Int) = 4) = true := by simp; omega
              have d3 : ((c : Int) = 4) = True := by simp; omega
              clear hc4 HW2 HJ2 HW' HJ'
              go_upto_region 16 with (go_at_call 38; (refine (HW3.out _ (hm.out.below K2.out)).mono ?_); rintro e w8 ⟨ok, rfl, hb3⟩; replace SB := Lib.hid (block_below SB.out hb3); have hwb8 := Nat.le_trans hwb7 hb3.size; have his8 := Nat.lt_of_lt_of_le his7 hb3.size; replace I2 := Lib.hid (block_below I2.out hb3); replace V2 := Lib.hid (V2.out.below hb3); replace MP2 := Lib.hid (MP2.out.below hb3); replace F2 := Lib.hid (block_below F2.out hb3); replace K2 := Lib.hid (nextB K2.out hb3); clear hb3; have s0 := cells1 SB.out; have sf0 : w8.frozen? ⟨sb, 0, none⟩ = false := free_at SB.out)
              clear s0 sf0
              have SB9 : Hid ((w8.setCell ⟨sb, 0, none⟩ (.string ⟨s.toArray⟩)).heap[sb]? = some (.cells #[.string ⟨s.toArray⟩] 76 (0, 0))) := Lib.hid (setCell_at (j := 0) (v := .string ⟨s.toArray⟩) SB.out)
              have I9 : Hid ((w8.setCell ⟨sb, 0, none⟩ (.string ⟨s.toArray⟩)).heap[ib]? = some (.stringIter ⟨(encs ps).toArray⟩ (encs (qs ++ [p])).length)) := Lib.hid ((heap_set_other _ (by omega)).trans I2.out)
              have F9 : Hid ((w8.setCell ⟨sb, 0, none⟩ (.string ⟨s.toArray⟩)).heap[rb]? = some (.cells #[.int .i64 0, .int .i64 0] 26 (0, 0))) := Lib.hid ((heap_set_other _ (by omega)).trans F2.out)
              have V9 : Hid (Buf (w8.setCell ⟨sb, 0, none⟩ (.string ⟨s.toArray⟩)) (mb + 1) 5 u8 bs) := Lib.hid (V2.out.kept (row := some sb) (Only.set (b := sb) (.string ⟨s.toArray⟩)) (.inr (fun e => by have := HVS.out sb e; omega)))
              have MP9 := Lib.hid (MP2.out.setCell (c := sb) (j := 0) (v := .string ⟨s.toArray⟩) (by omega))
              have K9 : Hid (Below w.heap.size w (w8.setCell ⟨sb, 0, none⟩ (.string ⟨s.toArray⟩))) := Lib.hid (K2.out.setCell (show w.heap.size ≤ sb by have := HRB.out; omega) (.string ⟨s.toArray⟩))
              have hwb9 : mb + 1 ≤ (w8.setCell ⟨sb, 0, none⟩ (.string ⟨s.toArray⟩)).heap.size := by simpa using hwb8
              have his10 : ib < (w8.setCell ⟨sb, 0, none⟩ (.string ⟨s.toArray⟩)).heap.size := by simpa using his8
              clear SB I2 F2 V2 MP2 K2
              generalize w8.setCell ⟨sb, 0, none⟩ (.string ⟨s.toArray⟩) = w10 at *
              have s0 := cells1 SB9.out
              go_upto_region 17 with (at_mapUpdate; refine wpList_put (M := (MRT 74 21 76 Tryz.underlying74 Tryz.underlying21 (fun w => by kernel_rfl) : MK Tryz.prog Nat (List UInt8))) rfl _ _ _ rfl MP9.out (by unfold maxLen; omega) p hp9 s trivial rfl rfl rfl ?_; intro wt hm7 hg7; have MPX : Hid (∃ gg nn, nn ≤ qs.length + 1 ∧ Hid (∀ k s, gg k = some s → s = bt k) ∧ Hid (MapAt (MRT 74 21 76 Tryz.underlying74 Tryz.underlying21 (fun w => by kernel_rfl) : MK Tryz.prog Nat (List UInt8)) wt mb nn gg)) := Lib.hid ⟨_, n + 1, by omega, HGN, Lib.hid hm7⟩; have HG7 := Lib.hid hg7; clear hm7 hg7)
              have F2 := Lib.hid (block_only F9.out HG7.out (by omega))
              have I2 := Lib.hid (block_only I9.out HG7.out (by omega))
              have SB := Lib.hid (block_only SB9.out HG7.out (by omega))
              have V2 := Lib.hid (V9.out.kept HG7.out (.inr (fun e => by have := (V9.out.lt mb e).1; omega)))
              have K2 := Lib.hid (onlyB K9.out HG7.out (by have := HRB.out; omega))
              have hwb : mb + 1 ≤ wt.heap.size := Nat.le_trans hwb9 HG7.out.size
              have his9 : ib < wt.heap.size := Nat.lt_of_lt_of_le his10 HG7.out.size
              clear s0 SB9 I9 F9 V9 MP9 K9 HGN HG7
              obtain ⟨gg, nn, hnn, HGG, MP2⟩ := MPX.out
              clear MPX
              have s0 := cells1 SB.out
              by_cases htx : s = []
              · have HN : Hid (encT bt ps = none) := Lib.hid (by rw [HR.out]; exact encT_none bt p rs qs bs HE.out HPL.out (by rw [← HSE.out]; exact htx))
                subst htx
                obtain ⟨y0, y1⟩ := cells2 (F2.out); obtain ⟨yf0, yf1⟩ := frees2 (F2.out)
                go_wp2
                have hw1 : w.heap.size ≤ rb := by have := HRB.out; omega
                refine end_tmp_cell (by rfl) rfl (by rfl) (store2 F2.out rfl) Tryz.underlying26 rfl (by kernel_rfl) ?_
                exact ⟨[], 6, pq, rfl, .inr ⟨ps, HPS.out, rfl, .inr ⟨HN.out, rfl, rfl⟩⟩, (K2.out.setCell hw1 _).setCell hw1 _⟩
              · have HE2 : Hid (encT bt (qs ++ [p]) = some (bs ++ s)) := Lib.hid (by rw [encT_snoc bt p qs bs HE.out, if_neg HPL.out, if_neg (by rw [← HSE.out]; exact htx), HSE.out])
                obtain ⟨e1, e2, e3⟩ := told_ne htx
                clear htx
                have L5 := Lib.hid V2.out.lt
                have HNI := Lib.hid (buf_ne_iter V2.out I2.out)
                go_wp2_with (at_builtin; refine wpList_pushS wt rfl (.tmp 62) (.tmp 64) 35 9 rfl (mb + 1) 5 Tryz.underlying35 Tryz.underlying9 info_u8' _ bs s rfl V2.out (by rfl) (by omega) hwb ?_; intro v5 w5 hr5 hg5; have V5 := Lib.hid hr5; have HG5 := Lib.hid hg5; clear hr5 hg5)
                have KG := Lib.hid (pk_grown (Below.refl (mb + 1) wt) HG5.out (fun k e => (L5.out k e).1) hwb)
                have I5 := Lib.hid ((HG5.out.block ib his9 HNI.out).trans I2.out)
                refine ⟨⟨qs ++ [p], rs, bs ++ s, Lib.hid (by rw [List.append_assoc]; exact HR.out), by simp at hql ⊢; omega, HE2, by simp; omega, I5, Lib.hid ((KG.out.block rb (by omega)).trans F2.out), V5, ⟨gg, nn, by simp; omega, HGG, Lib.hid (MP2.out.kept HG5.out (fun e => by have := (L5.out mb e.symm).1; omega))⟩, Lib.hid (K2.out.trans (KG.out.mono (by have := HRB.out; omega)))⟩, ?_⟩
                have hpos7 : w5.iterPos ib = (encs (qs ++ [p])).length := by unfold World.iterPos; rw [I5.out]
                rw [hpos7]
                exact HM.out
            · have HJ3 := Lib.hid (HJ2.out hc5)
              have d1 : ((c : Int) == 4) = false := by simp; omega
              have d2 : decide ((c : Int) = 4) = false := by simp; omega
              have d3 : ((c : Int) = 4) = False := by simp; omega
              clear hc5 HW2 HJ2 HW' HJ'
              go_upto_region 16 with (go_at_call 36; (refine (HJ3.out _).mono ?_); rintro e w8 ⟨ok, rfl, hb3⟩; replace SB := Lib.hid (block_below SB.out hb3); have hwb8 := Nat.le_trans hwb7 hb3.size; have his8 := Nat.lt_of_lt_of_le his7 hb3.size; replace I2 := Lib.hid (block_below I2.out hb3); replace V2 := Lib.hid (V2.out.below hb3); replace MP2 := Lib.hid (MP2.out.below hb3); replace F2 := Lib.hid (block_below F2.out hb3); replace K2 := Lib.hid (nextB K2.out hb3); clear hb3; have s0 := cells1 SB.out; have sf0 : w8.frozen? ⟨sb, 0, none⟩ = false := free_at SB.out)
              clear s0 sf0
              have SB9 : Hid ((w8.setCell ⟨sb, 0, none⟩ (.string ⟨s.toArray⟩)).heap[sb]? = some (.cells #[.string ⟨s.toArray⟩] 76 (0, 0))) := Lib.hid (setCell_at (j := 0) (v := .string ⟨s.toArray⟩) SB.out)
              have I9 : Hid ((w8.setCell ⟨sb, 0, none⟩ (.string ⟨s.toArray⟩)).heap[ib]? = some (.stringIter ⟨(encs ps).toArray⟩ (encs (qs ++ [p])).length)) := Lib.hid ((heap_set_other _ (by omega)).trans I2.out)
              have F9 : Hid ((w8.setCell ⟨sb, 0, none⟩ (.string ⟨s.toArray⟩)).heap[rb]? = some (.cells #[.int .i64 0, .int .i64 0] 26 (0, 0))) := Lib.hid ((heap_set_other _ (by omega)).trans F2.out)
              have V9 : Hid (Buf (w8.setCell ⟨sb, 0, none⟩ (.string ⟨s.toArray⟩)) (mb + 1) 5 u8 bs) := Lib.hid (V2.out.kept (row := some sb) (Only.set (b := sb) (.string ⟨s.toArray⟩)) (.inr (fun e => by have := HVS.out sb e; omega)))
              have MP9 := Lib.hid (MP2.out.setCell (c := sb) (j := 0) (v := .string ⟨s.toArray⟩) (by omega))
              have K9 : Hid (Below w.heap.size w (w8.setCell ⟨sb, 0, none⟩ (.string ⟨s.toArray⟩))) := Lib.hid (K2.out.setCell (show w.heap.size ≤ sb by have := HRB.out; omega) (.string ⟨s.toArray⟩))
              have hwb9 : mb + 1 ≤ (w8.setCell ⟨sb, 0, none⟩ (.string ⟨s.toArray⟩)).heap.size := by simpa using hwb8
              have his10 : ib < (w8.setCell ⟨sb, 0, none⟩ (.string ⟨s.toArray⟩)).heap.size := by simpa using his8
              clear SB I2 F2 V2 MP2 K2
              generalize w8.setCell ⟨sb, 0, none⟩ (.string ⟨s.toArray⟩) = w10 at *
              have s0 := cells1 SB9.out
              go_upto_region 17 with (at_mapUpdate; refine wpList_put (M := (MRT 74 21 76 Tryz.underlying74 Tryz.underlying21 (fun w => by kernel_rfl) : MK Tryz.prog Nat (List UInt8))) rfl _ _ _ rfl MP9.out (by unfold maxLen; omega) p hp9 s trivial rfl rfl rfl ?_; intro wt hm7 hg7; have MPX : Hid (∃ gg nn, nn ≤ qs.length + 1 ∧ Hid (∀ k s, gg k = some s → s = bt k) ∧ Hid (MapAt (MRT 74 21 76 Tryz.underlying74 Tryz.underlying21 (fun w => by kernel_rfl) : MK Tryz.prog Nat (List UInt8)) wt mb nn gg)) := Lib.hid ⟨_, n + 1, by omega, HGN, Lib.hid hm7⟩; have HG7 := Lib.hid hg7; clear hm7 hg7)
              have F2 := Lib.hid (block_only F9.out HG7.out (by omega))
              have I2 := Lib.hid (block_only I9.out HG7.out (by omega))
              have SB := Lib.hid (block_only SB9.out HG7.out (by omega))
              have V2 := Lib.hid (V9.out.kept HG7.out (.inr (fun e => by have := (V9.out.lt mb e).1; omega)))
              have K2 := Lib.hid (onlyB K9.out HG7.out (by have := HRB.out; omega))
              have hwb : mb + 1 ≤ wt.heap.size := Nat.le_trans hwb9 HG7.out.size
              have his9 : ib < wt.heap.size := Nat.lt_of_lt_of_le his10 HG7.out.size
              clear s0 SB9 I9 F9 V9 MP9 K9 HGN HG7
              obtain ⟨gg, nn, hnn, HGG, MP2⟩ := MPX.out
              clear MPX
              have s0 := cells1 SB.out
              by_cases htx : s = []
              · have HN : Hid (encT bt ps = none) := Lib.hid (by rw [HR.out]; exact encT_none bt p rs qs bs HE.out HPL.out (by rw [← HSE.out]; exact htx))
                subst htx
                obtain ⟨y0, y1⟩ := cells2 (F2.out); obtain ⟨yf0, yf1⟩ := frees2 (F2.out)
                go_wp2
                have hw1 : w.heap.size ≤ rb := by have := HRB.out; omega
                refine end_tmp_cell (by rfl) rfl (by rfl) (store2 F2.out rfl) Tryz.underlying26 rfl (by kernel_rfl) ?_
                exact ⟨[], 6, pq, rfl, .inr ⟨ps, HPS.out, rfl, .inr ⟨HN.out, rfl, rfl⟩⟩, (K2.out.setCell hw1 _).setCell hw1 _⟩
              · have HE2 : Hid (encT bt (qs ++ [p]) = some (bs ++ s)) := Lib.hid (by rw [encT_snoc bt p qs bs HE.out, if_neg HPL.out, if_neg (by rw [← HSE.out]; exact htx), HSE.out])
                obtain ⟨e1, e2, e3⟩ := told_ne htx
                clear htx
                have L5 := Lib.hid V2.out.lt
                have HNI := Lib.hid (buf_ne_iter V2.out I2.out)
                go_wp2_with (at_builtin; refine wpList_pushS wt rfl (.tmp 62) (.tmp 64) 35 9 rfl (mb + 1) 5 Tryz.underlying35 Tryz.underlying9 info_u8' _ bs s rfl V2.out (by rfl) (by omega) hwb ?_; intro v5 w5 hr5 hg5; have V5 := Lib.hid hr5; have HG5 := Lib.hid hg5; clear hr5 hg5)
                have KG := Lib.hid (pk_grown (Below.refl (mb + 1) wt) HG5.out (fun k e => (L5.out k e).1) hwb)
                have I5 := Lib.hid ((HG5.out.block ib his9 HNI.out).trans I2.out)
                refine ⟨⟨qs ++ [p], rs, bs ++ s, Lib.hid (by rw [List.append_assoc]; exact HR.out), by simp at hql ⊢; omega, HE2, by simp; omega, I5, Lib.hid ((KG.out.block rb (by omega)).trans F2.out), V5, ⟨gg, nn, by simp; omega, HGG, Lib.hid (MP2.out.kept HG5.out (fun e => by have := (L5.out mb e.symm).1; omega))⟩, Lib.hid (K2.out.trans (KG.out.mono (by have := HRB.out; omega)))⟩, ?_⟩
                have hpos7 : w5.iterPos ib = (encs (qs ++ [p])).length := by unfold World.iterPos; rw [I5.out]
                rw [hpos7]
                exact HM.out
          · have e := (HGF.out s' hg).symm
            subst e
            have HGX := Lib.hid hg
            clear hg HGF
            go_upto_region 17 with (at_lookup; refine wpList_look (M := (MRT 74 21 76 Tryz.underlying74 Tryz.underlying21 (fun w => by kernel_rfl) : MK Tryz.prog Nat (List UInt8))) rfl _ _ rfl MP2.out p hp9 rfl rfl (.agg #[.string ⟨s.toArray⟩]) true (by rw [HGX.out]; rfl) (by rw [HGX.out]; rfl) ?_)
            have SB := Lib.hid (at_a0 w9 #[.string ⟨s.toArray⟩] 76)
            have hb3 := (Below.refl w9.heap.size w9).alloc (Nat.le_refl _) (.cells #[.string ⟨s.toArray⟩] 76)
            replace hwb := Nat.le_trans hwb hb3.size
            replace his9 := Nat.lt_of_lt_of_le his9 hb3.size
            replace I2 := Lib.hid (block_below I2.out hb3); replace V2 := Lib.hid (V2.out.below hb3); replace MP2 := Lib.hid (MP2.out.below hb3); replace F2 := Lib.hid (block_below F2.out hb3); replace K2 := Lib.hid (nextB K2.out hb3); clear hb3
            generalize w9.alloc (.cells #[.string ⟨s.toArray⟩] 76) = wt at *
            generalize w9.heap.size = sb at *
            have MPX : Hid (∃ gg nn, nn ≤ qs.length + 1 ∧ Hid (∀ k s, gg k = some s → s = bt k) ∧ Hid (MapAt (MRT 74 21 76 Tryz.underlying74 Tryz.underlying21 (fun w => by kernel_rfl) : MK Tryz.prog Nat (List UInt8)) wt mb nn gg)) := Lib.hid ⟨g, n, by omega, HG, MP2⟩
            clear HGN MP2
            obtain ⟨gg, nn, hnn, HGG, MP2⟩ := MPX.out
            clear MPX
            have s0 := cells1 SB.out
            by_cases htx : s = []
            · have HN : Hid (encT bt ps = none) := Lib.hid (by rw [HR.out]; exact encT_none bt p rs qs bs HE.out HPL.out (by rw [← HSE.out]; exact htx))
              subst htx
              obtain ⟨y0, y1⟩ := cells2 (F2.out); obtain ⟨yf0, yf1⟩ := frees2 (F2.out)
              go_wp2
              have hw1 : w.heap.size ≤ rb := by have := HRB.out; omega
              refine end_tmp_cell (by rfl) rfl (by rfl) (store2 F2.out rfl) Tryz.underlying26 rfl (by kernel_rfl) ?_
              exact ⟨[], 6, pq, rfl, .inr ⟨ps, HPS.out, rfl, .inr ⟨HN.out, rfl, rfl⟩⟩, (K2.out.setCell hw1 _).setCell hw1 _⟩
            · have HE2 : Hid (encT bt (qs ++ [p]) = some (bs ++ s)) := Lib.hid (by rw [encT_snoc bt p qs bs HE.out, if_neg HPL.out, if_neg (by rw [← HSE.out]; exact htx), HSE.out])
              obtain ⟨e1, e2, e3⟩ := told_ne htx
              clear htx
              have L5 := Lib.hid V2.out.lt
              have HNI := Lib.hid (buf_ne_iter V2.out I2.out)
              go_wp2_with (at_builtin; refine wpList_pushS wt rfl (.tmp 62) (.tmp 64) 35 9 rfl (mb + 1) 5 Tryz.underlying35 Tryz.underlying9 info_u8' _ bs s rfl V2.out (by rfl) (by omega) hwb ?_; intro v5 w5 hr5 hg5; have V5 := Lib.hid hr5; have HG5 := Lib.hid hg5; clear hr5 hg5)
              have KG := Lib.hid (pk_grown (Below.refl (mb + 1) wt) HG5.out (fun k e => (L5.out k e).1) hwb)
              have I5 := Lib.hid ((HG5.out.block ib his9 HNI.out).trans I2.out)
              refine ⟨⟨qs ++ [p], rs, bs ++ s, Lib.hid (by rw [List.append_assoc]; exact HR.out), by simp at hql ⊢; omega, HE2, by simp; omega, I5, Lib.hid ((KG.out.block rb (by omega)).trans F2.out), V5, ⟨gg, nn, by simp; omega, HGG, Lib.hid (MP2.out.kept HG5.out (fun e => by have := (L5.out mb e.symm).1; omega))⟩, Lib.hid (K2.out.trans (KG.out.mono (by have := HRB.out; omega)))⟩, ?_⟩
              have hpos7 : w5.iterPos ib = (encs (qs ++ [p])).length := by unfold World.iterPos; rw [I5.out]
              rw [hpos7]
              exact HM.out
  · rw [show ((2 : Int) != 0) = true by rfl] at BD
    clear HCD PC
    obtain ⟨y0, y1⟩ := cells2 (C.out)
    go_upto_region 3 with (go_at_call 7; (with_reducible refine (BD.out _).mono ?_); rintro e w3 ⟨rfl, hb3⟩; replace C := Lib.hid (block_below C.out hb3); replace F := Lib.hid (block_below F.out hb3); replace K := Lib.hid (nextB K.out hb3); clear hb3 y0 y1; obtain ⟨y0, y1⟩ := cells2 (C.out); obtain ⟨f0, f1⟩ := cells2 (F.out); obtain ⟨ff0, ff1⟩ := frees2 (F.out))
    have cc : w3.cell? ⟨cb, 0, none⟩ = some (.int .i64 2) ∧ w3.cell? ⟨cb, 1, none⟩ = some (.int .i64 fa) := ⟨y0, y1⟩
    have n1 : cb ≠ rb := by omega
    go_region_held3 (fun w' => w'.cell? ⟨cb, 0, none⟩ = some (.int .i64 2) ∧ w'.cell? ⟨cb, 1, none⟩ = some (.int .i64 fa)) (first | exact cc | exact ⟨cell_set_other (cell_set_other y0 n1) n1, cell_set_other (cell_set_other y1 n1) n1⟩ | fail) (fail)
    go_wp2
    have hw1 : w.heap.size ≤ rb := by have := HRB.out; omega
    refine end_tmp_cell (by rfl) rfl (by rfl) (store2 F.out rfl) Tryz.underlying26 rfl (by kernel_rfl) ?_
    exact ⟨[], 2, fa, rfl, .inl ⟨hbad, rfl, rfl⟩, belowN ((K.out.setCell hw1 _).setCell hw1 _) 1⟩
end Go.Proofs.YtffhmjlojmoomaaGreatDoor
