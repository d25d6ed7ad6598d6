/- Scripts (ssa): a line's pieces, walked: remarks, sections, lines without a form. | Scripts (ssa): a line's pieces, walked: events, and what else has a key. -/
import Derived.Test.YtndpcphmndfajaaGreatDoorZSs5
import Derived.Test.YtndpcphmndfajaaGreatDoorZWkF
import Derived.Test.YtndpcphmndfajaaGreatDoorZLc3

namespace Go.Proofs.YtndpcphmndfajaaGreatDoor
open Go.RowKit
set_option linter.unusedVariables false
set_option linter.unusedSimpArgs false

/-- what a script's pieces tells of a line -/
def SpSays (b : Nat) (o : Option (Sc × List Pc)) (w : World) (e : Ending) (w' : World) : Prop :=
  match o with
  | none => e = .returned (.tuple #[.slice none 0 0, .bool false]) ∧ Away (· = b) w w'
  | some (c, ps) => ∃ v, e = .returned (.tuple #[v, .bool true]) ∧ ToldG w' v ps ∧ ScI b c w' ∧ Away (· = b) w w'

theorem tail_all (s : List UInt8) : List.take (s.length - 1) s.tail = s.drop 1 := by
  rw [← List.drop_one, drop_all]

set_option maxRecDepth 100000 in
theorem sp_nil (b : Nat) (c : Sc) (w : World) (h : ScI b c w) : Calls Tryz.prog 207 #[.pointer (some ⟨b, 0, none⟩), .string ⟨#[]⟩] w (SpSays b (some (c, [])) w) := by
  have H := Lib.hid h
  clear h
  go_enter Tryz.func207, Tryz.ntmps207
  go_wp2
  go_ret2
  exact ⟨_, rfl, .inl ⟨rfl, rfl⟩, H.out, Away.refl _ _⟩

set_option maxHeartbeats 2000000 in
set_option maxRecDepth 100000 in
theorem sp_remark (b : Nat) (c : Sc) (s : List UInt8) (w : World) (h : ScI b c w) (hs : s.length ≤ 1000000) (h0 : 0 < s.length) (hm : s[0] = 59 ∨ s[0] = 33) : Calls Tryz.prog 207 #[.pointer (some ⟨b, 0, none⟩), .string ⟨s.toArray⟩] w
    (SpSays b (some (c, [markL (s.take 1), ⟨false, premark, s.tail⟩])) w) := by
  have H := Lib.hid h
  clear h
  have hE : s.isEmpty = false := by cases s; simp at h0; rfl
  have hE2 : (s.isEmpty = true) = False := by rw [hE]; simp
  have q1 : (1 : Int) ≤ (s.length : Int) := by omega
  have q0 : (0 : Int) < (s.length : Int) := by omega
  have CM := Lib.hid (fun w g (a : List UInt8) hg (hl : a.length ≤ 1000000000) => mark_blk a w g hg hl)
  have CT := Lib.hid (fun w (t : List UInt8) => text_any [114, 101, 109, 97, 114, 107] t w)
  unfold pcV at CT
  have hd : ((s[0].toNat : Int) == 59) = true ∨ (((s[0].toNat : Int) == 59) = false ∧ ((s[0].toNat : Int) == 33) = true) := by
    rcases hm with h | h <;> rw [h] <;> decide
  have hml : (s.take 1).length ≤ 1000000000 := by rw [List.length_take]; omega
  have hk : List.take (s.length - 1) s.tail = s.tail := by rw [tail_all, List.drop_one]
  clear hm
  rcases hd with d1 | ⟨d1, d2⟩
  all_goals
    go_enter Tryz.func207, Tryz.ntmps207
    go_upto_region 4 with (fail)
    go_region_with (first | (go_at_call 163; refine (CM.out _ _ (s.take 1) (strs_one_drew w (s.take 1) 9) hml).mono ?_; rintro e w2 ⟨rfl, hb2⟩) | (go_at_call 165; refine (CT.out _ _).mono ?_; rintro e w3 ⟨rfl, hb3⟩))
    have K2 : Below w.heap.size w w2 := below_a1 ⟨hb2.os, hb2.tape, hb2.output, hb2.size, hb2.block⟩
    have K3 := nextB K2 hb3
    have K4 := K3.alloc K3.size (.cells (([markL (s.take 1), ⟨false, premark, s.tail⟩] : List Pc).map pcR).flatten.toArray 135)
    go_wp2
    go_ret2
    exact ⟨_, rfl, toldG_at (ps := [markL (s.take 1), ⟨false, premark, s.tail⟩]) (at_a0 w3 _ _) (by simp), H.out.below K4, Away.of_below K4⟩

set_option maxHeartbeats 2000000 in
set_option maxRecDepth 100000 in
theorem sp_section (b : Nat) (c : Sc) (s : List UInt8) (w : World) (h : ScI b c w) (hb3 : b ≠ 3) (hs : s.length ≤ 1000000) (h0 : 0 < s.length) (h1 : ((s[0].toNat : Int) == 59) = false) (h2 : ((s[0].toNat : Int) == 33) = false) (hsec : secT s = true) : Calls Tryz.prog 207 #[.pointer (some ⟨b, 0, none⟩), .string ⟨s.toArray⟩] w
    (SpSays b (some (⟨decide (s = evL), false, []⟩, [markL s])) w) := by
  obtain ⟨⟨v0, hX, hV⟩, hT⟩ := h
  have X := Lib.hid hX
  have TT := Lib.hid hT
  clear hX hT hV
  obtain ⟨x0, x1, x2⟩ := cells3 (X.out); obtain ⟨xf0, xf1, xf2⟩ := frees3 (X.out)
  have hE : s.isEmpty = false := by cases s; simp at h0; rfl
  have hE2 : (s.isEmpty = true) = False := by rw [hE]; simp
  have q0 : (0 : Int) < (s.length : Int) := by omega
  have CS := Lib.hid (fun w => section_any s w hs)
  rw [hsec] at CS
  have C1 := Lib.hid (fun w g hg => mark_one s w g hg (by omega))
  obtain ⟨ev, hev⟩ : ∃ ev, ev = decide (s = evL) := ⟨_, rfl⟩
  have HEV := Lib.hid hev
  have e1 : (s == [91, 69, 118, 101, 110, 116, 115, 93]) = ev := by
    rw [hev]
    show (s == evL) = _
    rw [Bool.eq_iff_iff, beq_iff_eq, decide_eq_true_iff]
  have hbl := (Array.getElem?_eq_some_iff.1 X.out).1
  rw [← hev]
  clear hev hsec
  go_enter Tryz.func207, Tryz.ntmps207
  go_upto_region 7 with (go_at_call 275; refine (CS.out _).mono ?_; rintro e w1 ⟨rfl, rfl⟩)
  have X1 := Lib.hid (store3 (v0 := .bool ev) (v1 := .bool false) (v2 := .slice none 0 0) X.out rfl)
  have A1 := Lib.hid ((((Away.refl (· = b) w).setIn (b := b) (j := 0) rfl (.bool ev)).setIn (b := b) (j := 1) rfl (.bool false)).setIn (b := b) (j := 2) rfl (.slice none 0 0))
  have T1 := Lib.hid (TT.out.of (w' := ((w.setCell ⟨b, 0, none⟩ (.bool ev)).setCell ⟨b, 1, none⟩ (.bool false)).setCell ⟨b, 2, none⟩ (.slice none 0 0)) ((heap_set_other _ (Ne.symm hb3)).trans ((heap_set_other _ (Ne.symm hb3)).trans (heap_set_other _ (Ne.symm hb3)))))
  clear X TT x0 x1 x2 xf0 xf1 xf2
  generalize ((w.setCell ⟨b, 0, none⟩ (.bool ev)).setCell ⟨b, 1, none⟩ (.bool false)).setCell ⟨b, 2, none⟩ (.slice none 0 0) = w1 at *
  have I1 := Lib.hid (show ScI b ⟨ev, false, []⟩ w1 from ⟨⟨_, X1.out, .inl ⟨rfl, rfl, rfl⟩⟩, T1.out⟩)
  go_wp2_with (go_at_call 163; refine (C1.out _ _ (by simp)).mono ?_; rintro e w2 ⟨rfl, hb2⟩)
  go_ret2
  have K2 : Below w1.heap.size w1 w2 := below_a1 hb2
  have K3 := K2.alloc K2.size (.cells #[.bool true, .string ⟨#[109, 97, 114, 107]⟩, .string ⟨s.toArray⟩] 135)
  exact ⟨_, rfl, toldG_at (ps := [markL s]) (at_a0 w2 _ _) (by simp), I1.out.below K3, A1.out.trans (Away.of_below K3)⟩

set_option maxHeartbeats 2000000 in
set_option maxRecDepth 100000 in
theorem sp_none (b : Nat) (s : List UInt8) (w : World) (hs : s.length ≤ 1000000) (h0 : 0 < s.length) (h1 : ((s[0].toNat : Int) == 59) = false) (h2 : ((s[0].toNat : Int) == 33) = false) (hsec : secT s = false) (hk : keyedT s = none) : Calls Tryz.prog 207 #[.pointer (some ⟨b, 0, none⟩), .string ⟨s.toArray⟩] w
    (SpSays b none w) := by
  have hE : s.isEmpty = false := by cases s; simp at h0; rfl
  have hE2 : (s.isEmpty = true) = False := by rw [hE]; simp
  have q0 : (0 : Int) < (s.length : Int) := by omega
  have CS := Lib.hid (fun w => section_any s w hs)
  rw [hsec] at CS
  have CK := Lib.hid (fun w => keyed_any s w hs)
  rw [hk] at CK
  unfold kyV at CK
  clear hsec hk
  go_enter Tryz.func207, Tryz.ntmps207
  go_wp2_with (first | (go_at_call 275; refine (CS.out _).mono ?_; rintro e w1 ⟨rfl, rfl⟩) | (go_at_call 276; refine (CK.out _).mono ?_; rintro e w1 ⟨rfl, rfl⟩))
  go_ret2
  exact ⟨rfl, Away.refl _ _⟩
set_option maxHeartbeats 2000000 in
set_option maxRecDepth 100000 in
theorem sp_format (b : Nat) (c : Sc) (s : List UInt8) (n : Nat) (w : World) (h : ScI b c w) (hb3 : b ≠ 3) (hs : s.length ≤ 1000000) (h0 : 0 < s.length) (h1 : ((s[0].toNat : Int) == 59) = false) (h2 : ((s[0].toNat : Int) == 33) = false) (hsec : secT s = false) (hk : keyedT s = some n) (hf : s.take n = foL) :
    Calls Tryz.prog 207 #[.pointer (some ⟨b, 0, none⟩), .string ⟨s.toArray⟩] w (SpSays b (some (⟨c.ev, true, fieldsT (s.drop (n + 2))⟩, [markL s])) w) := by
  have hE : s.isEmpty = false := by cases s; simp at h0; rfl
  have hE2 : (s.isEmpty = true) = False := by rw [hE]; simp
  have q0 : (0 : Int) < (s.length : Int) := by omega
  obtain ⟨k1, k2⟩ := keyedT_lt s n hk
  have CS := Lib.hid (fun w => section_any s w hs)
  rw [hsec] at CS
  have CK := Lib.hid (fun w => keyed_any s w hs)
  rw [hk] at CK
  unfold kyV at CK
  have CF : Hid (Calls Tryz.prog 277 #[.pointer (some ⟨b, 0, none⟩), .string ⟨(List.take (s.length - (n + 2)) (List.drop (n + 2) s)).toArray⟩] w fun e w' => e = .returned (.tuple #[]) ∧ ScI b ⟨c.ev, true, fieldsT (s.drop (n + 2))⟩ w' ∧ Away (· = b) w w') := Lib.hid (by
    rw [drop_all]
    exact format_any b c _ w h hb3 (by rw [List.length_drop]; omega))
  have C1 := Lib.hid (fun w g hg => mark_one s w g hg (by omega))
  have e1 : (s.take n == [70, 111, 114, 109, 97, 116]) = true := by rw [hf]; rfl
  have e2 : (s.take n = [70, 111, 114, 109, 97, 116]) = True := by rw [hf]; simp [foL]
  have b1 : IntKind.i64.wrap ((n : Int) + 2) = (n : Int) + 2 := IntWalk.i64_in _ (by omega)
  have b2 : ((n : Int) + 2).toNat = n + 2 := by omega
  have b3 : (0 : Int) ≤ (n : Int) + 2 := by omega
  have b4 : (n : Int) + 2 ≤ (s.length : Int) := by omega
  have b5 : (n : Int) ≤ (s.length : Int) := by omega
  clear hsec hk h hf
  generalize fieldsT (s.drop (n + 2)) = fs at *
  go_enter Tryz.func207, Tryz.ntmps207
  go_wp2_with (first | (go_at_call 275; refine (CS.out _).mono ?_; rintro e w1 ⟨rfl, rfl⟩) | (go_at_call 276; refine (CK.out _).mono ?_; rintro e w1 ⟨rfl, rfl⟩) | (go_at_call 277; refine (CF.out).mono ?_; rintro e w1 ⟨rfl, hi1, ha1⟩) | (go_at_call 163; refine (C1.out _ _ (by simp)).mono ?_; rintro e w2 ⟨rfl, hb2⟩))
  go_ret2
  have K2 : Below w1.heap.size w1 w2 := below_a1 hb2
  have K3 := K2.alloc K2.size (.cells #[.bool true, .string ⟨#[109, 97, 114, 107]⟩, .string ⟨s.toArray⟩] 135)
  exact ⟨_, rfl, toldG_at (ps := [markL s]) (at_a0 w2 _ _) (by simp), hi1.below K3, ha1.trans (Away.of_below K3)⟩
end Go.Proofs.YtndpcphmndfajaaGreatDoor

namespace Go.Proofs.YtndpcphmndfajaaGreatDoor
open Go.RowKit
set_option linter.unusedVariables false
set_option linter.unusedSimpArgs false

set_option maxHeartbeats 4000000 in
set_option maxRecDepth 100000 in
theorem sp_event (b : Nat) (c : Sc) (s : List UInt8) (n : Nat) (w : World) (h : ScI b c w) (hs : s.length ≤ 1000000) (h0 : 0 < s.length) (h1 : ((s[0].toNat : Int) == 59) = false) (h2 : ((s[0].toNat : Int) == 33) = false) (hsec : secT s = false) (hk : keyedT s = some n) (hf : s.take n ≠ foL) (hev : c.ev = true) :
    Calls Tryz.prog 207 #[.pointer (some ⟨b, 0, none⟩), .string ⟨s.toArray⟩] w (SpSays b ((eventT c (s.take (n + 2)) (s.drop (n + 2))).map fun l => (c, l)) w) := by
  have hE : s.isEmpty = false := by cases s; simp at h0; rfl
  have hE2 : (s.isEmpty = true) = False := by rw [hE]; simp
  have q0 : (0 : Int) < (s.length : Int) := by omega
  obtain ⟨k1, k2⟩ := keyedT_lt s n hk
  have CS := Lib.hid (fun w => section_any s w hs)
  rw [hsec] at CS
  have CK := Lib.hid (fun w => keyed_any s w hs)
  rw [hk] at CK
  unfold kyV at CK
  have CE : Hid (∀ wz, ScI b c wz → Calls Tryz.prog 278 #[.pointer (some ⟨b, 0, none⟩), .string ⟨(s.take (n + 2)).toArray⟩, .string ⟨(List.take (s.length - (n + 2)) (List.drop (n + 2) s)).toArray⟩] wz (PcsSay (eventT c (s.take (n + 2)) (s.drop (n + 2))) wz)) := Lib.hid (fun wz hz => by
    rw [drop_all]
    exact event_any b c _ _ wz hz (by rw [List.length_drop]; omega) (by rw [List.length_take]; omega))
  have e1 : (s.take n == [70, 111, 114, 109, 97, 116]) = false := by rw [beq_eq_false_iff_ne]; exact hf
  have e2 : (s.take n = [70, 111, 114, 109, 97, 116]) = False := eq_false hf
  have b1 : IntKind.i64.wrap ((n : Int) + 2) = (n : Int) + 2 := IntWalk.i64_in _ (by omega)
  have b2 : ((n : Int) + 2).toNat = n + 2 := by omega
  have b3 : (0 : Int) ≤ (n : Int) + 2 := by omega
  have b4 : (n : Int) + 2 ≤ (s.length : Int) := by omega
  have b5 : (n : Int) ≤ (s.length : Int) := by omega
  obtain ⟨v0, hX, -⟩ := h.1
  have X := Lib.hid hX
  have H := Lib.hid h
  clear hsec hk h hf hX
  obtain ⟨x0, x1, x2⟩ := cells3 (X.out)
  rw [hev] at x0
  clear hev
  generalize eventT c (s.take (n + 2)) (s.drop (n + 2)) = o at *
  go_enter Tryz.func207, Tryz.ntmps207
  go_upto_region 16 with (first | (go_at_call 275; refine (CS.out _).mono ?_; rintro e w1 ⟨rfl, rfl⟩) | (go_at_call 276; refine (CK.out _).mono ?_; rintro e w1 ⟨rfl, rfl⟩))
  rcases o with _ | ps
  · have CE0 : Hid (Calls Tryz.prog 278 #[.pointer (some ⟨b, 0, none⟩), .string ⟨(s.take (n + 2)).toArray⟩, .string ⟨(List.take (s.length - (n + 2)) (List.drop (n + 2) s)).toArray⟩] w.drew (PcsSay none w.drew)) := Lib.hid (CE.out w.drew H.out)
    go_region_with (go_at_call 278; refine (CE0.out).mono ?_; rintro e w2 ⟨rfl, hb2⟩)
    all_goals
      go_wp2
      go_ret2
      exact ⟨rfl, Away.of_below ⟨hb2.os, hb2.tape, hb2.output, hb2.size, hb2.block⟩⟩
  · have CE0 : Hid (Calls Tryz.prog 278 #[.pointer (some ⟨b, 0, none⟩), .string ⟨(s.take (n + 2)).toArray⟩, .string ⟨(List.take (s.length - (n + 2)) (List.drop (n + 2) s)).toArray⟩] w.drew (PcsSay (some ps) w.drew)) := Lib.hid (CE.out w.drew H.out)
    go_region_with (go_at_call 278; refine (CE0.out).mono ?_; rintro e w2 ⟨v2, rfl, ht2, hb2⟩)
    all_goals
      go_wp2
      go_ret2
      have K2 : Below w.heap.size w w2 := ⟨hb2.os, hb2.tape, hb2.output, hb2.size, hb2.block⟩
      exact ⟨_, rfl, ht2, H.out.below K2, Away.of_below K2⟩
set_option maxHeartbeats 4000000 in
set_option maxRecDepth 100000 in
theorem sp_keyed (b : Nat) (c : Sc) (s : List UInt8) (n : Nat) (w : World) (h : ScI b c w) (hs : s.length ≤ 1000000) (h0 : 0 < s.length) (h1 : ((s[0].toNat : Int) == 59) = false) (h2 : ((s[0].toNat : Int) == 33) = false) (hsec : secT s = false) (hk : keyedT s = some n) (hf : s.take n ≠ foL) (hev : c.ev = false) :
    Calls Tryz.prog 207 #[.pointer (some ⟨b, 0, none⟩), .string ⟨s.toArray⟩] w (SpSays b (some (c, [markL (s.take (n + 2)), ⟨false, s.take n, s.drop (n + 2)⟩])) w) := by
  have hE : s.isEmpty = false := by cases s; simp at h0; rfl
  have hE2 : (s.isEmpty = true) = False := by rw [hE]; simp
  have q0 : (0 : Int) < (s.length : Int) := by omega
  obtain ⟨k1, k2⟩ := keyedT_lt s n hk
  have CS := Lib.hid (fun w => section_any s w hs)
  rw [hsec] at CS
  have CK := Lib.hid (fun w => keyed_any s w hs)
  rw [hk] at CK
  unfold kyV at CK
  have hml : (s.take (n + 2)).length ≤ 1000000000 := by rw [List.length_take]; omega
  have CM := Lib.hid (fun w g (a : List UInt8) hg (hl : a.length ≤ 1000000000) => mark_blk a w g hg hl)
  have CT : Hid (∀ wz, Calls Tryz.prog 165 #[.string ⟨(s.take n).toArray⟩, .string ⟨(List.take (s.length - (n + 2)) (List.drop (n + 2) s)).toArray⟩] wz fun e w' => e = .returned (.agg #[.bool false, .string ⟨(s.take n).toArray⟩, .string ⟨(s.drop (n + 2)).toArray⟩]) ∧ Below wz.heap.size wz w') := Lib.hid (fun wz => by
    rw [drop_all]
    exact text_any (s.take n) (s.drop (n + 2)) wz)
  have e1 : (s.take n == [70, 111, 114, 109, 97, 116]) = false := by rw [beq_eq_false_iff_ne]; exact hf
  have e2 : (s.take n = [70, 111, 114, 109, 97, 116]) = False := eq_false hf
  have b1 : IntKind.i64.wrap ((n : Int) + 2) = (n : Int) + 2 := IntWalk.i64_in _ (by omega)
  have b2 : ((n : Int) + 2).toNat = n + 2 := by omega
  have b3 : (0 : Int) ≤ (n : Int) + 2 := by omega
  have b4 : (n : Int) + 2 ≤ (s.length : Int) := by omega
  have b5 : (n : Int) ≤ (s.length : Int) := by omega
  obtain ⟨v0, hX, -⟩ := h.1
  have X := Lib.hid hX
  have H := Lib.hid h
  clear hsec hk h hf hX
  obtain ⟨x0, x1, x2⟩ := cells3 (X.out)
  rw [hev] at x0
  clear hev
  go_enter Tryz.func207, Tryz.ntmps207
  go_upto_region 17 with (first | (go_at_call 275; refine (CS.out _).mono ?_; rintro e w1 ⟨rfl, rfl⟩) | (go_at_call 276; refine (CK.out _).mono ?_; rintro e w1 ⟨rfl, rfl⟩))
  go_region_with (first | (go_at_call 163; refine (CM.out _ _ (s.take (n + 2)) (strs_one_drew w (s.take (n + 2)) 9) hml).mono ?_; rintro e w2 ⟨rfl, hb2⟩) | (go_at_call 165; refine (CT.out _).mono ?_; rintro e w3 ⟨rfl, hb3⟩))
  all_goals
    have K2 : Below w.heap.size w w2 := below_a1 ⟨hb2.os, hb2.tape, hb2.output, hb2.size, hb2.block⟩
    have K3 := nextB K2 hb3
    have K4 := K3.alloc K3.size (.cells (([markL (s.take (n + 2)), ⟨false, s.take n, s.drop (n + 2)⟩] : List Pc).map pcR).flatten.toArray 135)
    go_wp2
    go_ret2
    exact ⟨_, rfl, toldG_at (ps := [markL (s.take (n + 2)), ⟨false, s.take n, s.drop (n + 2)⟩]) (at_a0 w3 _ _) (by simp), H.out.below K4, Away.of_below K4⟩
end Go.Proofs.YtndpcphmndfajaaGreatDoor
