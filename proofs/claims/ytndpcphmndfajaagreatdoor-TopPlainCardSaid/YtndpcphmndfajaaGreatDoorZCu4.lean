/- Sheets (cue): whole, timed, numbered, listed, walked. | Sheets (cue): listed, valued, walked. | Sheets (cue): valued, walked. -/
import Derived.Test.YtndpcphmndfajaaGreatDoorZSrt1
import Derived.Test.YtndpcphmndfajaaGreatDoorZWk

namespace Go.Proofs.YtndpcphmndfajaaGreatDoor
open Go.RowKit
set_option linter.unusedVariables false
set_option linter.unusedSimpArgs false

/-- what is told of a line's pieces -/
def PcsSay (o : Option (List Pc)) (w : World) (e : Ending) (w' : World) : Prop :=
  match o with
  | none => e = .returned (.tuple #[.slice none 0 0, .bool false]) ∧ Below w.heap.size w w'
  | some ps => ∃ v, e = .returned (.tuple #[v, .bool true]) ∧ ToldG w' v ps ∧ Below w.heap.size w w'
theorem toldG_at {w : World} {g : Nat} {c : Nat} {ps : List Pc} {T : TypeId} (h : w.heap[g]? = some (.cells ((ps.map pcR).flatten).toArray T (0, 0))) (hp : 0 < ps.length) : ToldG w (.slice (some ⟨g, 0, none⟩) ps.length c) ps :=
  .inr ⟨g, c, rfl, hp, fun j u hj => by rw [cell_at h]; simpa using hj⟩

theorem drop_all (s : List UInt8) (k : Nat) : (s.drop k).take (s.length - k) = s.drop k := by
  rw [← List.length_drop, List.take_length]

set_option maxRecDepth 100000 in
theorem cwhole_any (s : List UInt8) (ok : Bool) (w : World) (hs : s.length ≤ 1000000000) : Calls Tryz.prog 164 #[.string ⟨s.toArray⟩, .bool ok] w (PcsSay (wholeT s ok) w) := by
  have CM := Lib.hid (fun w g hg => mark_one s w g hg hs)
  unfold PcsSay wholeT
  rcases ok with _ | _
  · go_enter Tryz.func164, Tryz.ntmps164
    go_wp2
    go_ret2
    exact ⟨rfl, Below.refl _ _⟩
  · go_enter Tryz.func164, Tryz.ntmps164
    go_wp2_with (go_at_call 163; refine (CM.out _ _ (by simp)).mono ?_; rintro e w2 ⟨rfl, hb2⟩)
    go_ret2
    exact ⟨_, rfl, toldG_at (ps := [markL s]) (at_a0 _ _ _) (by simp), (below_a1 hb2).alloc (below_a1 hb2).size _⟩
set_option maxRecDepth 100000 in
theorem timed_any (s : List UInt8) (w : World) (hs : s.length ≤ 1000000000) : Calls Tryz.prog 170 #[.string ⟨s.toArray⟩] w fun e w' => e = .returned (.bool (timedT s)) ∧ Below w.heap.size w w' := by
  have HC := Lib.hid (fun w => like_any s momL w hs (by decide))
  unfold timedT
  go_enter Tryz.func170, Tryz.ntmps170
  go_wp2_with (go_at_call 84; refine (HC.out _).mono ?_; rintro e w1 ⟨rfl, hb1⟩)
  go_ret
  exact ⟨rfl, hb1⟩

set_option maxHeartbeats 1000000 in
set_option maxRecDepth 100000 in
theorem numb_any (F : Nat) (asked : List UInt8 → Bool) (eF : ∀ args w, (callFunc F args).run Tryz.prog w = .ok (.enter F args) w)
    (hF : ∀ (s : List UInt8) (w : World), s.length ≤ 1000000000 → Calls Tryz.prog F #[.string ⟨s.toArray⟩] w fun e w' => e = .returned (.bool (asked s)) ∧ Below w.heap.size w w')
    (s : List UInt8) (w : World) (hs : s.length ≤ 1000000000) : Calls Tryz.prog 169 #[.string ⟨s.toArray⟩, .func (.func F) #[] #[]] w fun e w' => e = .returned (.bool (numbT asked s)) ∧ Below w.heap.size w w' := by
  have HL := Lib.hid (fun w => like_any (s.take 2) [48, 48] w (by rw [List.length_take]; omega) (by decide))
  have HA : Hid (∀ w : World, Calls Tryz.prog F #[.string ⟨((s.drop 3).take (s.length - 3)).toArray⟩] w fun e w' => e = .returned (.bool (asked (s.drop 3))) ∧ Below w.heap.size w w') := Lib.hid (fun w => by
    rw [drop_all]
    exact hF (s.drop 3) w (by rw [List.length_drop]; omega))
  clear hF
  by_cases h2 : 2 < s.length
  · have h2i : (2 : Int) < s.length := by omega
    have h3i : (3 : Int) ≤ s.length := by omega
    have h0 : numbT asked s = (likeL (s.take 2) [48, 48] && s[2]? == some 32 && asked (s.drop 3)) := by unfold numbT; simp [h2]
    have g2 : (s[2]? == some (32 : UInt8)) = ((s[2].toNat : Int) == 32) := by
      rw [List.getElem?_eq_getElem h2]
      show (s[2] == 32) = _
      have := u8_lit s[2] 32 (by decide)
      rw [Bool.eq_iff_iff]
      simp only [beq_iff_eq]
      exact this
    rw [g2] at h0
    clear g2
    rcases hL : likeL (s.take 2) [48, 48] with _ | _
    · rw [hL] at HL h0
      rw [h0]
      clear h0 hL HA
      go_enter Tryz.func169, Tryz.ntmps169
      go_wp2_with (go_at_call 84; refine (HL.out _).mono ?_; rintro e w1 ⟨rfl, hb1⟩)
      go_ret
      exact ⟨rfl, hb1⟩
    · rw [hL] at HL h0
      rcases hB : ((s[2].toNat : Int) == 32) with _ | _
      · rw [hB] at h0
        rw [h0]
        clear h0 hL HA
        go_enter Tryz.func169, Tryz.ntmps169
        go_wp2_with (go_at_call 84; refine (HL.out _).mono ?_; rintro e w1 ⟨rfl, hb1⟩)
        go_ret
        exact ⟨rfl, hb1⟩
      · rw [hB] at h0
        rw [h0]
        clear h0 hL
        generalize asked (s.drop 3) = ra at *
        go_enter Tryz.func169, Tryz.ntmps169
        go_wp2_with (first | (go_at_call 84; refine (HL.out _).mono ?_; rintro e w1 ⟨rfl, hb1⟩) | (go_at_fn F; refine (HA.out _).mono ?_; rintro e w2 ⟨rfl, hb2⟩))
        go_ret
        exact ⟨rfl, nextB hb1 hb2⟩
  · have h2i : ¬ (2 : Int) < s.length := by omega
    have h0 : numbT asked s = false := by unfold numbT; simp [h2]
    rw [h0]
    go_enter Tryz.func169, Tryz.ntmps169
    go_wp2
    go_ret
    exact ⟨rfl, Below.refl _ _⟩
end Go.Proofs.YtndpcphmndfajaaGreatDoor

namespace Go.Proofs.YtndpcphmndfajaaGreatDoor
open Go.RowKit
set_option linter.unusedVariables false
set_option linter.unusedSimpArgs false

def lisB (c : UInt8) : Bool := c == 32 || isCap c
set_option maxHeartbeats 1000000 in
set_option maxRecDepth 100000 in
theorem listed_any (s : List UInt8) (w : World) (hs : s.length ≤ 1000000000) : Calls Tryz.prog 171 #[.string ⟨s.toArray⟩] w fun e w' => e = .returned (.bool (listT' s)) ∧ w = w' := by
  have lit : ∀ c : UInt8, (c == 32) = ((c.toNat : Int) == 32) := fun c => by
    have := u8_lit c 32 (by decide)
    rw [Bool.eq_iff_iff]
    simp only [beq_iff_eq]
    exact this
  by_cases hE : s = []
  · subst hE
    have h0 : listT' [] = false := rfl
    rw [h0]
    go_enter Tryz.func171, Tryz.ntmps171
    go_wp2
    go_ret
    exact ⟨rfl, rfl⟩
  have hE1 : s.isEmpty = false := by cases s; exact absurd rfl hE; rfl
  have hE2 : (s.isEmpty = true) = False := by rw [hE1]; simp
  have hp : 0 < s.length := List.length_pos_iff.2 hE
  have hpi : (0 : Int) < s.length := by omega
  have h0 : listT' s = (!((s[0].toNat : Int) == 32) && s.all lisB) := by
    unfold listT'
    rw [hE1, List.getElem?_eq_getElem hp, ← lit]
    rfl
  rw [h0]
  clear h0 hE
  rcases hA : ((s[0].toNat : Int) == 32) with _ | _
  · have HALL := Lib.hid (fun k (hk : k < s.length) => (List.all_eq_true (l := s) (p := lisB)).1)
    generalize hr : s.all lisB = r at *
    have HR := Lib.hid hr
    clear hr HALL
    go_enter Tryz.func171, Tryz.ntmps171
    go_wp2
    go_loopw [13] (fun i wr => ∃ (k : Nat), k ≤ s.length ∧ i = .int .i64 k ∧ Hid (∀ i (hi : i < s.length), i < k → lisB s[i] = true) ∧ Hid (wr = w)) (fun i _ => s.length - (intOf i).toNat)
    case atStart => exact ⟨0, by omega, rfl, Lib.hid (fun i _ h1 => absurd h1 (by omega)), Lib.hid rfl⟩
    case round =>
      obtain ⟨k, hk, rfl, HI, HW⟩ := hrel
      by_cases hlt : k < s.length
      · have q0 : (k : Int) < s.length := by omega
        have q1 : (k : Int) + 1 ≤ s.length := by omega
        have HC : Hid (∀ w : World, Calls Tryz.prog 168 #[.string ⟨((s.drop k).take 1).toArray⟩] w fun e w' => e = .returned (.bool (isCap s[k])) ∧ w = w') := Lib.hid (fun w => by
          have h := caps_any ((s.drop k).take 1) w (by rw [List.length_take]; omega)
          have e1 : (s.drop k).take 1 = [s[k]] := by rw [List.drop_eq_getElem_cons hlt]; rfl
          have e2 : capsL ((s.drop k).take 1) = isCap s[k] := by rw [e1]; simp [capsL]
          rw [e2] at h
          exact h)
        have stop : lisB s[k] = false → r = false := fun h => by
          rw [← HR.out, List.all_eq_false]
          exact ⟨s[k], List.getElem_mem hlt, by simp [h]⟩
        have next : lisB s[k] = true → ∀ i (hi : i < s.length), i < k + 1 → lisB s[i] = true := fun h i hi h1 => by
          by_cases hik : i < k
          · exact HI.out i hi hik
          · obtain rfl : i = k := by omega
            exact h
        have hl : lisB s[k] = (((s[k].toNat : Int) == 32) || isCap s[k]) := by unfold lisB; rw [lit]
        rcases hB : ((s[k].toNat : Int) == 32) with _ | _
        · have hB2 : ((s[k].toNat : Int) != 32) = true := by simpa using hB
          rw [hB, Bool.false_or] at hl
          rcases hC : isCap s[k] with _ | _
          · rw [hC] at HC hl
            have hst := stop hl
            subst hst
            clear stop next hl hC hB
            go_wp2_with (go_at_call 168; refine (HC.out _).mono ?_; rintro e w1 ⟨rfl, rfl⟩)
            go_ret
            exact ⟨rfl, HW.out.symm⟩
          · rw [hC] at HC hl
            have HN := Lib.hid (next hl)
            clear stop next hl hC hB
            go_wp2_with (go_at_call 168; refine (HC.out _).mono ?_; rintro e w1 ⟨rfl, rfl⟩)
            exact ⟨⟨k + 1, by omega, by simp, HN, HW⟩, by simp [intOf]; omega⟩
        · have hB2 : ((s[k].toNat : Int) != 32) = false := by simpa using hB
          rw [hB, Bool.true_or] at hl
          have HN := Lib.hid (next hl)
          clear stop next hl hB
          go_wp2
          exact ⟨⟨k + 1, by omega, by simp, HN, HW⟩, by simp [intOf]; omega⟩
      · have q0 : ¬ (k : Int) < s.length := by omega
        have hr : r = true := by
          rw [← HR.out, List.all_eq_true]
          intro c hc
          obtain ⟨i, hi, rfl⟩ := List.getElem_of_mem hc
          exact HI.out i hi (by omega)
        subst hr
        go_wp2
        go_ret
        exact ⟨rfl, HW.out.symm⟩
  · go_enter Tryz.func171, Tryz.ntmps171
    go_wp2
    go_ret
    exact ⟨rfl, rfl⟩
end Go.Proofs.YtndpcphmndfajaaGreatDoor

namespace Go.Proofs.YtndpcphmndfajaaGreatDoor
open Go.RowKit
set_option linter.unusedVariables false
set_option linter.unusedSimpArgs false

theorem mark_two (a b : List UInt8) (w : World) (g : Nat) (hg : StrsAt w (some ⟨g, 0, none⟩) 2 [a, b]) (hs : (a ++ b).length ≤ 1000000000) :
    Calls Tryz.prog 163 #[.slice (some ⟨g, 0, none⟩) 2 2] w fun e w' => e = .returned (.agg #[.bool true, .string ⟨#[109, 97, 114, 107]⟩, .string ⟨(a ++ b).toArray⟩]) ∧ Below w.heap.size w w' := by
  have h := mark_any (some ⟨g, 0, none⟩) 2 2 [a, b] w hg (by decide) (by decide) (by simpa using hs)
  have e : [a, b].flatten = a ++ b := by simp
  rw [e] at h
  exact h
theorem strs_two_drew (w : World) (a b : List UInt8) (T : TypeId) : StrsAt (w.alloc (.cells #[.string ⟨a.toArray⟩, .string ⟨b.toArray⟩] T)).drew (some ⟨w.heap.size, 0, none⟩) 2 [a, b] := StrsAt.two w a b T

theorem told_recs {w : World} {base : Nat} {v : Value} {ps : List Pc} (h : Recs w base 135 3 v (ps.map pcR)) (hp : 0 < ps.length) : ToldG w v ps := by
  have hlen : (ps.map pcR).length = ps.length := List.length_map _
  rcases h.2.2 with ⟨h0, h1⟩ | ⟨g, cap, cur, hv, rest⟩
  · exfalso
    have : (ps.map pcR).length = 0 := by first | exact h1 | exact h0
    omega
  · refine .inr ⟨g, cap, by rw [hv, hlen], hp, fun j u hj => ?_⟩
    have := World.ownsRow.cells h.2 (g := g) (by rw [hv]; rfl) j u hj
    rwa [show ((⟨g, 0, none⟩ : Addr).add j) = ⟨g, j, none⟩ by rw [Go.WideShapes.add_plain, Nat.zero_add]] at this

set_option maxHeartbeats 2000000 in
set_option maxRecDepth 100000 in
theorem valued_any (s name : List UInt8) (fr tp : Nat) (w : World) (hs : s.length ≤ 1000000) (h1 : fr ≤ tp) (h2 : tp ≤ s.length) :
    Calls Tryz.prog 166 #[.string ⟨s.toArray⟩, .string ⟨name.toArray⟩, .int .i64 fr, .int .i64 tp] w (PcsSay (valuedT s name fr tp) w) := by
  have b1 : (fr : Int) ≤ tp := by omega
  have b2 : (tp : Int) ≤ s.length := by omega
  have b3 : (fr : Int) ≤ s.length := by omega
  have HV := Lib.hid (fun w => value_any ((s.drop fr).take (tp - fr)) w (by rw [List.length_take, List.length_drop]; omega))
  have hT : valuedT s name fr tp = match valueT ((s.drop fr).take (tp - fr)) with
    | none => none
    | some (x, g) => some ([markL (s.take fr ++ (s.drop fr).take g), ⟨false, name, x⟩] ++ behP (s.drop (tp - g))) := rfl
  rw [hT]
  clear hT
  unfold PcsSay
  rcases hv : valueT ((s.drop fr).take (tp - fr)) with _ | ⟨x, g⟩
  · have e : valV ((s.drop fr).take (tp - fr)) = .tuple #[.string ⟨#[]⟩, .int .i64 0, .bool false] := by unfold valV; rw [hv]
    rw [e] at HV
    clear hv e
    go_enter Tryz.func166, Tryz.ntmps166
    go_wp2_with (go_at_call 250; refine (HV.out _).mono ?_; rintro e w1 ⟨rfl, rfl⟩)
    go_ret2
    exact ⟨rfl, Below.refl _ _⟩
  · have e : valV ((s.drop fr).take (tp - fr)) = .tuple #[.string ⟨x.toArray⟩, .int .i64 g, .bool true] := by unfold valV; rw [hv]
    rw [e] at HV
    have hg : g ≤ 1 ∧ g ≤ tp - fr := by
      have := valueT_whole _ _ _ hv
      refine ⟨this.2.1, ?_⟩
      have := this.2.2
      rw [List.length_take, List.length_drop] at this
      omega
    clear hv e
    have CM := Lib.hid (fun (w : World) (q : Nat) (a b : List UInt8) hq (hl : (a ++ b).length ≤ 1000000000) => mark_two a b w q hq hl)
    have CT := Lib.hid (fun w => text_any name x w)
    have C1 := Lib.hid (fun w q (a : List UInt8) hq (hl : a.length ≤ 1000000000) => mark_one a w q hq hl)
    unfold pcV at CT
    have b4 : IntKind.i64.wrap ((fr : Int) + (g : Int)) = (fr : Int) + (g : Int) := IntWalk.i64_in _ (by omega)
    have b5 : ((fr : Int) + (g : Int)).toNat = fr + g := by omega
    have b6 : (0 : Int) ≤ (fr : Int) := by omega
    have b8 : (fr : Int) + (g : Int) ≤ s.length := by omega
    have b9 : (fr : Int) ≤ (fr : Int) + (g : Int) := by omega
    have b10 : fr + g - fr = g := by omega
    go_enter Tryz.func166, Tryz.ntmps166
    go_upto_region 4 with (go_at_call 250; refine (HV.out _).mono ?_; rintro e w1 ⟨rfl, rfl⟩)
    clear HV
    go_region_with (first | (go_at_call 163; refine (CM.out _ _ (s.take fr) ((s.drop fr).take g) (strs_two_drew w (s.take fr) ((s.drop fr).take g) 9) (by rw [List.length_append, List.length_take, List.length_take, List.length_drop]; omega)).mono ?_; rintro e w2 ⟨rfl, hb2⟩) | (go_at_call 165; refine (CT.out _).mono ?_; rintro e w3 ⟨rfl, hb3⟩))
    have K2 : Below w.heap.size w w2 := below_a1 ⟨hb2.os, hb2.tape, hb2.output, hb2.size, hb2.block⟩
    have K3 := nextB K2 hb3
    have HR := Lib.hid (show Recs (w3.alloc (.cells #[.bool true, .string ⟨#[109, 97, 114, 107]⟩, .string ⟨(s.take fr ++ (s.drop fr).take g).toArray⟩, .bool false, .string ⟨name.toArray⟩, .string ⟨x.toArray⟩] 135)) w.heap.size 135 3 (.slice (some ⟨w3.heap.size, 0, none⟩) 2 2) (([markL (s.take fr ++ (s.drop fr).take g), ⟨false, name, x⟩] : List Pc).map pcR) from
      ⟨by simp [pcR], World.ownsRow_lit w3 _ 2 K3.size (by decide) rfl⟩)
    have K4 := Lib.hid (K3.alloc K3.size (.cells #[.bool true, .string ⟨#[109, 97, 114, 107]⟩, .string ⟨(s.take fr ++ (s.drop fr).take g).toArray⟩, .bool false, .string ⟨name.toArray⟩, .string ⟨x.toArray⟩] 135))
    clear hb2 hb3 K2 K3 CM CT b4 b5 b8 b9 b10
    generalize w3.alloc (.cells #[.bool true, .string ⟨#[109, 97, 114, 107]⟩, .string ⟨(s.take fr ++ (s.drop fr).take g).toArray⟩, .bool false, .string ⟨name.toArray⟩, .string ⟨x.toArray⟩] 135) = wz at *
    generalize w3.heap.size = gb at *
    have c1 : IntKind.i64.wrap ((tp : Int) - (g : Int)) = (tp : Int) - (g : Int) := IntWalk.i64_in _ (by omega)
    have c2 : ((tp : Int) - (g : Int)).toNat = tp - g := by omega
    have c3 : (0 : Int) ≤ (tp : Int) - (g : Int) := by omega
    have c4 : (tp : Int) - (g : Int) ≤ s.length := by omega
    go_upto_region 6 with (fail)
    generalize hm : List.take (s.length - (tp - g)) (List.drop (tp - g) s) = m at *
    have hm2 : s.drop (tp - g) = m := by rw [← hm]; exact (drop_all s _).symm
    have hml : m.length ≤ 1000000 := by rw [← hm2, List.length_drop]; omega
    have HM2 := Lib.hid hm2
    clear hm hm2
    by_cases hme : m = []
    · subst hme
      go_wp2
      go_ret2
      rw [HM2.out]
      exact ⟨_, rfl, told_recs HR.out (by simp), K4.out⟩
    · have hbE : m.isEmpty = false := by cases m; exact absurd rfl hme; rfl
      have hE2 : (m.isEmpty = true) = False := by rw [hbE]; simp
      have hml2 : m.length ≤ 1000000000 := by omega
      go_wp2_with (first | (go_at_call 163; refine (C1.out _ _ m (by simp) hml2).mono ?_; rintro e w4 ⟨rfl, hb4⟩; have HR4 := Lib.hid (Recs.below (HR.out.alloc (.cells #[.string ⟨m.toArray⟩] 9)) hb4); have K5 := Lib.hid (nextB K4.out (below_a1 hb4))) | (at_builtin; refine wpList_pushR w4 rfl (.tmp 48) (.tmp 52) 54 rfl w.heap.size 135 3 40 _ Tryz.underlying54 info_Piece rfl (by decide) (by decide) _ (([markL (s.take fr ++ (s.drop fr).take g), ⟨false, name, x⟩] : List Pc).map pcR) (pcR (markL m)) _ (by rfl) rfl (one_pcR _) (by rfl) HR4.out (by rfl) (by simp) K5.out.size _ ?_; intro v5 w5 hr5 hg5))
      go_ret2
      rw [HM2.out]
      refine ⟨_, rfl, told_recs (base := w.heap.size) ?_ (by simp), grown_below K5.out hg5 ?_⟩
      · unfold behP
        rw [if_neg hme]
        exact hr5
      · exact fun k hk => (HR4.out.lt k hk).1
end Go.Proofs.YtndpcphmndfajaaGreatDoor
