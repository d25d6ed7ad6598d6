/- Songs (lrc): Pieces, walked, once note is. | The tellers of sheets and songs. | Scripts (ssa): what a text's pieces come to. | Scripts (ssa): Parse, walked. -/
import Derived.Test.YtndpcphmndfajaaGreatDoorZLc2
import Derived.Test.YtndpcphmndfajaaGreatDoorZLc3
import Derived.Test.YtndpcphmndfajaaGreatDoorZSs6

namespace Go.Proofs.YtndpcphmndfajaaGreatDoor
open Go.RowKit
set_option linter.unusedVariables false
set_option linter.unusedSimpArgs false

def NoteSays : Prop := ∀ (s : List UInt8) (w : World), s.length ≤ 1000000 → Calls Tryz.prog 280 #[.string ⟨s.toArray⟩] w (PcsSay (noteT s) w)
/-- what stands in the midst of the times: the pieces so far, and the rest -/
def TimesMid (s : List UInt8) (acc : List Pc) (r : List UInt8) : Prop := ∃ f, r.length ≤ f ∧ timesP s.length s = (acc ++ (timesP f r).1, (timesP f r).2)
theorem TimesMid.start (s : List UInt8) : TimesMid s [] s := ⟨s.length, Nat.le_refl _, by simp⟩
theorem TimesMid.step {s : List UInt8} {acc : List Pc} {r : List UInt8} (h : TimesMid s acc r) (hn : momN r ≠ 0) : TimesMid s (acc ++ [markL (r.take (momN r))]) (r.drop (momN r)) := by
  obtain ⟨f, hf, e⟩ := h
  have hl := momN_le r
  cases f with
  | zero => omega
  | succ f =>
    refine ⟨f, by rw [List.length_drop]; omega, ?_⟩
    rw [e]
    have h9 : timesP (f + 1) r = (markL (r.take (momN r)) :: (timesP f (r.drop (momN r))).1, (timesP f (r.drop (momN r))).2) := by
      conv => lhs; unfold timesP
      rw [if_neg hn]
    rw [h9]
    simp
theorem TimesMid.stop {s : List UInt8} {acc : List Pc} {r : List UInt8} (h : TimesMid s acc r) (hn : momN r = 0) : timesP s.length s = (acc, r) := by
  obtain ⟨f, hf, e⟩ := h
  rw [e]
  have h9 : timesP f r = ([], r) := by
    cases f with
    | zero => rfl
    | succ f => unfold timesP; rw [if_pos hn]
  rw [h9]
  simp

set_option maxHeartbeats 4000000 in
set_option maxRecDepth 100000 in
theorem lrc_any (HN : NoteSays) (s : List UInt8) (w : World) (hs : s.length ≤ 1000000) : Calls Tryz.prog 208 #[.string ⟨s.toArray⟩] w (PcsSay (lrcT s) w) := by
  by_cases hE : s = []
  · subst hE
    go_enter Tryz.func208, Tryz.ntmps208
    go_wp2
    go_ret2
    exact ⟨_, rfl, .inl ⟨rfl, rfl⟩, Below.refl _ _⟩
  have hbE : s.isEmpty = false := by cases s; exact absurd rfl hE; rfl
  have hE2 : (s.isEmpty = true) = False := by rw [hbE]; simp
  have hT : lrcT s = if (timesP s.length s).1 = [] then noteT s else some ((timesP s.length s).1 ++ (if (timesP s.length s).2 = [] then [] else [sayP (timesP s.length s).2])) := by unfold lrcT; rw [if_neg hE]
  have HT := Lib.hid hT
  have HM := Lib.hid (fun (r : List UInt8) w (h : r.length ≤ 1000000) => moment_any r w h)
  have C1 := Lib.hid (fun w q (a : List UInt8) hq (hl : a.length ≤ 1000000000) => mark_one a w q hq hl)
  have HNS := Lib.hid (fun w => HN s w hs)
  clear hT hE HN
  go_enter Tryz.func208, Tryz.ntmps208
  go_upto_region 6 with (go_at_call 279; refine (HM.out s _ hs).mono ?_; rintro e w1 ⟨rfl, hb1⟩)
  go_loopw [4, 5, 6] (fun v sv nv wr => ∃ (acc : List Pc) (r : List UInt8), acc.length + r.length ≤ s.length ∧ sv = .string ⟨r.toArray⟩ ∧ nv = .int .i64 (momN r) ∧ Hid (TimesMid s acc r) ∧ Hid (Recs wr w.heap.size 135 3 v (acc.map pcR)) ∧ Hid (Below w.heap.size w wr)) (fun _ sv _ _ => (match sv with | .string b => b.size | _ => 0))
  case atStart => exact ⟨[], s, by simp, rfl, rfl, Lib.hid (TimesMid.start s), Lib.hid (Recs.nil _ _ _ _), Lib.hid hb1⟩
  case round =>
    obtain ⟨acc, r, har, rfl, rfl, HI, HR, HB⟩ := hrel
    have hrl : r.length ≤ 1000000 := by omega
    have hnl := momN_le r
    by_cases hn : momN r = 0
    · have HS := Lib.hid (HI.out.stop hn)
      have j0 : ¬ ((0 : Int) < (momN r : Int)) := by omega
      obtain ⟨a9, cap9, hv, hrest⟩ := HR.out.view
      rw [List.length_map] at hv
      subst hv
      clear hn hnl hrest
      rcases acc with _ | ⟨p, acc⟩
      · have HZ := Lib.hid (show lrcT s = noteT s by rw [HT.out, if_pos (by rw [HS.out])])
        rcases hnt : noteT s with _ | ps
        · rw [hnt] at HNS HZ
          clear hnt
          go_wp2_with (go_at_call 280; refine (HNS.out _).mono ?_; rintro e w5 ⟨rfl, hb5⟩)
          go_ret2
          rw [HZ.out]
          exact ⟨rfl, nextB HB.out hb5⟩
        · rw [hnt] at HNS HZ
          clear hnt
          go_wp2_with (go_at_call 280; refine (HNS.out _).mono ?_; rintro e w5 ⟨v5, rfl, ht5, hb5⟩)
          go_ret2
          rw [HZ.out]
          exact ⟨_, rfl, ht5, nextB HB.out hb5⟩
      · have j1 : (((((p :: acc).map pcR).length : Nat) : Int) == 0) = false := by simp; omega
        have j2 : ((((acc.length + 1 : Nat) : Int)) == 0) = false := by simp; omega
        have j3 : (((acc.length : Int) + 1) == 0) = false := by simp; omega
        have HZ := Lib.hid (show lrcT s = some ((p :: acc) ++ (if r = [] then [] else [sayP r])) by rw [HT.out, if_neg (by rw [HS.out]; simp)]; rw [HS.out])
        by_cases hre : r = []
        · subst hre
          go_wp2
          go_ret2
          rw [HZ.out]
          simp only [if_true, List.append_nil]
          exact ⟨_, rfl, told_recs HR.out (by simp), HB.out⟩
        · have hrE : r.isEmpty = false := by cases r; exact absurd rfl hre; rfl
          have hrE2 : (r.isEmpty = true) = False := by rw [hrE]; simp
          have CT := Lib.hid (fun w => text_any [116, 101, 120, 116] r w)
          unfold pcV at CT
          have hal : acc.length ≤ 1000000 := by simp only [List.length_cons] at har; omega
          go_wp2_with (first | (go_at_call 165; refine (CT.out _).mono ?_; rintro e w4 ⟨rfl, hb4⟩; have HR4 := Lib.hid (HR.out.below hb4); have K5 := Lib.hid (nextB HB.out hb4)) | (at_builtin; refine wpList_pushR w4 rfl (.tmp 36) (.tmp 39) 54 rfl w.heap.size 135 3 40 _ Tryz.underlying54 info_Piece rfl (by decide) (by decide) _ ((p :: acc).map pcR) (pcR (sayP r)) _ (by rfl) rfl (one_pcR _) (by rfl) HR4.out (by rfl) (by simp; omega) K5.out.size _ ?_; intro v5 w5 hr5 hg5))
          go_ret2
          rw [HZ.out, if_neg hre]
          refine ⟨_, rfl, told_recs (base := w.heap.size) ?_ (by simp), grown_below K5.out hg5 ?_⟩
          · rw [List.map_append]
            exact hr5
          · exact fun k hk => (HR4.out.lt k hk).1
    · have HS := Lib.hid (HI.out.step hn)
      have j0 : (0 : Int) < (momN r : Int) := by omega
      have j1 : (momN r : Int) ≤ (r.length : Int) := by omega
      have hn1 : 1 ≤ momN r := by omega
      generalize momN r = n at *
      have hal : acc.length ≤ 1000000 := by omega
      have htl : (r.take n).length ≤ 1000000000 := by rw [List.length_take]; omega
      have hdl : (r.drop n).length ≤ 1000000 := by rw [List.length_drop]; omega
      clear hn
      go_upto_region 7 with (first | (go_at_call 163; refine (C1.out _ _ (r.take n) (by simp) htl).mono ?_; rintro e w4 ⟨rfl, hb4⟩; have HR4 := Lib.hid (Recs.below (HR.out.alloc (.cells #[.string ⟨(r.take n).toArray⟩] 9)) hb4); have K5 := Lib.hid (nextB HB.out (below_a1 hb4))) | (at_builtin; refine wpList_pushR w4 rfl (.tmp 16) (.tmp 22) 54 rfl w.heap.size 135 3 40 _ Tryz.underlying54 info_Piece rfl (by decide) (by decide) _ (acc.map pcR) (pcR (markL (r.take n))) _ (by rfl) rfl (one_pcR _) (by rfl) HR4.out (by rfl) (by simp; omega) K5.out.size _ ?_; intro v5 w5 hr5 hg5))
      have K6 := Lib.hid (grown_below K5.out hg5 (fun k hk => (HR4.out.lt k hk).1))
      have HR5 := Lib.hid (show Recs w5 w.heap.size 135 3 v5 ((acc ++ [markL (r.take n)]).map pcR) by rw [List.map_append]; exact hr5)
      rw [drop_all]
      have hlen : (r.drop n).length = r.length - n := List.length_drop
      clear hr5 hg5 HR4 K5 hb4
      generalize r.drop n = r2 at *
      go_wp2_with (go_at_call 279; refine (HM.out r2 _ hdl).mono ?_; rintro e w6 ⟨rfl, hb6⟩)
      refine ⟨⟨acc ++ [markL (r.take n)], r2, by rw [List.length_append, List.length_singleton]; omega, rfl, rfl, HS, Lib.hid (HR5.out.below hb6), Lib.hid (nextB K6.out hb6)⟩, ?_⟩
      simp [ByteArray.size]
      omega
end Go.Proofs.YtndpcphmndfajaaGreatDoor

namespace Go.Proofs.YtndpcphmndfajaaGreatDoor
open Go.RowKit
set_option linter.unusedVariables false
set_option linter.unusedSimpArgs false

theorem lastB_none (c : UInt8) : ∀ (l : List UInt8), lastB c l = none → ∀ j (h : j < l.length), l[j] ≠ c
  | x :: r, h, j, hj => by
    unfold lastB at h
    split at h
    · cases h
    · rename_i hn
      split at h
      · cases h
      · rename_i hx
        cases j with
        | zero => exact hx
        | succ j => simpa using lastB_none c r hn j (by simpa using hj)
theorem lastB_some (c : UInt8) : ∀ (l : List UInt8) (k : Nat), lastB c l = some k → l[k]? = some c ∧ ∀ j (h : j < l.length), k < j → l[j] ≠ c
  | x :: r, k, h => by
    unfold lastB at h
    split at h
    · rename_i i hi
      cases h
      obtain ⟨h1, h2⟩ := lastB_some c r i hi
      refine ⟨by simpa using h1, fun j hj hkj => ?_⟩
      cases j with
      | zero => omega
      | succ j => simpa using h2 j (by simpa using hj) (by omega)
    · rename_i hn
      split at h
      · rename_i hx
        cases h
        refine ⟨by simp [hx], fun j hj hkj => ?_⟩
        cases j with
        | zero => omega
        | succ j => simpa using lastB_none c r hn j (by simpa using hj)
      · cases h
theorem lastI_is (r : List UInt8) : Lib.lastIndexByte ⟨r.toArray⟩ 32 = lastI r := by
  have hsz : (⟨r.toArray⟩ : ByteArray).size = r.length := by show r.toArray.size = _; rw [List.size_toArray]
  have hg : ∀ j (h : j < r.length), (((⟨r.toArray⟩ : ByteArray).data[j]!).toNat : Int) = 32 ↔ r[j] = 32 := fun j h => by
    show ((r.toArray[j]!).toNat : Int) = 32 ↔ _
    rw [getElem!_pos r.toArray j (by simpa using h)]
    rw [List.getElem_toArray]
    have := u8_lit r[j] 32 (by decide)
    exact this.symm
  unfold lastI
  rcases Lib.lastIndexByte_spec ⟨r.toArray⟩ 32 with ⟨h1, h2⟩ | ⟨i, h0, h1, h2, h3⟩
  · rw [h1]
    rcases hk : lastB 32 r with _ | k
    · rfl
    · exfalso
      obtain ⟨a, _⟩ := lastB_some _ _ _ hk
      obtain ⟨hl, he⟩ := List.getElem?_eq_some_iff.1 a
      exact h2 k (by rw [hsz]; exact hl) ((hg k hl).2 he)
  · rw [h1]
    rw [hsz] at h0 h3
    have hi : r[i] = 32 := (hg i h0).1 h2
    rcases hk : lastB 32 r with _ | k
    · exact absurd hi (lastB_none _ _ hk i h0)
    · obtain ⟨a, b⟩ := lastB_some _ _ _ hk
      obtain ⟨hl, he⟩ := List.getElem?_eq_some_iff.1 a
      rcases Nat.lt_trichotomy i k with h | h | h
      · exact absurd ((hg k hl).2 he) (h3 k h hl)
      · rw [h]
      · exact absurd hi (b i h0 h)
theorem lastIdx_any : LastIdx := fun r w hl =>
  (Tryz.strings_LastIndex_one ⟨r.toArray⟩ ⟨#[32]⟩ rfl (by show r.toArray.size < _; rw [List.size_toArray]; omega) w).mono fun e w' ⟨h1, h2⟩ => ⟨by
    rw [h1]
    exact congrArg (fun z => Ending.returned (.int .i64 z)) (lastI_is r), h2.symm⟩
theorem cue_teller : Teller 85 [] 1000000 (fun (_ : Unit) _ => True) (fun _ => False) cueRSt :=
  teller_of cueT (enters_of Tryz.func85 (by kernel_rfl) rfl)
    (fun s w hs => cue_any lastIdx_any (enters_of Tryz.func168 (by kernel_rfl) rfl) (enters_of Tryz.func170 (by kernel_rfl) rfl) s w hs) cueT_few
theorem lrc_teller : Teller 208 [] 1000000 (fun (_ : Unit) _ => True) (fun _ => False) lrcRSt :=
  teller_of lrcT (enters_of Tryz.func208 (by kernel_rfl) rfl) (fun s w hs => lrc_any note_any s w hs) (fun s ps h => (lrcT_whole s ps h).2)
theorem cparse_any (t : List UInt8) (w : World) (ht : t.length ≤ 1000000) : Calls Tryz.prog 125 #[.string ⟨t.toArray⟩] w (ReadG (cueR t) w) := cueR_any cue_teller t w ht
theorem lparse_any (t : List UInt8) (w : World) (ht : t.length ≤ 1000000) : Calls Tryz.prog 128 #[.string ⟨t.toArray⟩] w (ReadG (lrcR t) w) := lrcR_any lrc_teller t w ht
/-- The pieces' texts are the text. -/
theorem cueR_whole (t : List UInt8) (acc : List Pc) (h : cueR t = .ok acc) : txP acc = t ∧ acc.length ≤ 5 * t.length := by
  unfold cueR at h
  rcases hw : walkG cueRSt (linesOf t 0) () [] with a | ⟨st, ac⟩
  · rw [hw] at h; cases h
  · rw [hw] at h
    cases h
    refine walkG_whole cueRSt (fun st s st' ps hm => ?_) t () st _ hw
    obtain ⟨q, hq, he⟩ := Option.map_eq_some_iff.1 hm
    cases he
    exact ⟨(cueT_whole _ _ hq).1, cueT_few _ _ hq⟩
theorem lrcR_whole (t : List UInt8) (acc : List Pc) (h : lrcR t = .ok acc) : txP acc = t ∧ acc.length ≤ 5 * t.length := by
  unfold lrcR at h
  rcases hw : walkG lrcRSt (linesOf t 0) () [] with a | ⟨st, ac⟩
  · rw [hw] at h; cases h
  · rw [hw] at h
    cases h
    refine walkG_whole lrcRSt (fun st s st' ps hm => ?_) t () st _ hw
    obtain ⟨q, hq, he⟩ := Option.map_eq_some_iff.1 hm
    cases he
    exact lrcT_whole _ _ hq
end Go.Proofs.YtndpcphmndfajaaGreatDoor

namespace Go.Proofs.YtndpcphmndfajaaGreatDoor
open Go.RowKit
set_option linter.unusedVariables false
set_option linter.unusedSimpArgs false

def sc0 : Sc := ⟨false, false, []⟩
def ssaR (t : List UInt8) : Except Nat (List Pc) := match walkG ssaT (linesOf t 0) sc0 [] with
  | .error a => .error a
  | .ok (_, acc) => .ok acc
theorem ssaR_whole (t : List UInt8) (acc : List Pc) (h : ssaR t = .ok acc) : txP acc = t ∧ acc.length ≤ 5 * t.length := by
  unfold ssaR at h
  rcases hw : walkG ssaT (linesOf t 0) sc0 [] with a | ⟨st, ac⟩
  · rw [hw] at h; cases h
  · rw [hw] at h
    cases h
    exact walkG_whole ssaT (fun st s st' ps hm => ssaT_whole st st' s ps hm) t sc0 st _ hw
end Go.Proofs.YtndpcphmndfajaaGreatDoor

namespace Go.Proofs.YtndpcphmndfajaaGreatDoor
open Go.RowKit
set_option linter.unusedVariables false
set_option linter.unusedSimpArgs false

theorem sp_any (b : Nat) (hb3 : b ≠ 3) (c : Sc) (s : List UInt8) (w : World) (h : ScI b c w) (hs : s.length ≤ 1000000) : Calls Tryz.prog 207 #[.pointer (some ⟨b, 0, none⟩), .string ⟨s.toArray⟩] w (SpSays b (ssaT c s) w) := by
  unfold ssaT
  by_cases hE : s = []
  · subst hE
    rw [if_pos rfl]
    exact sp_nil b c w h
  rw [if_neg hE]
  have h0 : 0 < s.length := List.length_pos_iff.2 hE
  have hg : s[0]? = some s[0] := List.getElem?_eq_getElem h0
  rw [hg]
  have t1 : ((s[0].toNat : Int) == 59) = true ↔ s[0] = 59 := by rw [beq_iff_eq]; exact (u8_lit _ 59 (by decide)).symm
  have t2 : ((s[0].toNat : Int) == 33) = true ↔ s[0] = 33 := by rw [beq_iff_eq]; exact (u8_lit _ 33 (by decide)).symm
  by_cases hm : s[0] = 59 ∨ s[0] = 33
  · rw [if_pos (by rcases hm with h | h; exact .inl (by rw [h]); exact .inr (by rw [h]))]
    have := sp_remark b c s w h hs h0 hm
    rw [← List.drop_one] at this
    exact this
  · rw [if_neg (by simpa using hm)]
    have h1 : ((s[0].toNat : Int) == 59) = false := by
      rcases hx : ((s[0].toNat : Int) == 59) with _ | _
      · rfl
      · exact absurd (.inl (t1.1 hx)) hm
    have h2 : ((s[0].toNat : Int) == 33) = false := by
      rcases hx : ((s[0].toNat : Int) == 33) with _ | _
      · rfl
      · exact absurd (.inr (t2.1 hx)) hm
    rcases hsec : secT s with _ | _
    · rw [if_neg (by simp)]
      rcases hk : keyedT s with _ | n
      · exact sp_none b s w hs h0 h1 h2 hsec hk
      · simp only
        by_cases hf : s.take n = foL
        · rw [if_pos hf]
          exact sp_format b c s n w h hb3 hs h0 h1 h2 hsec hk hf
        · rw [if_neg hf]
          rcases hev : c.ev with _ | _
          · rw [if_neg (by simp)]
            exact sp_keyed b c s n w h hs h0 h1 h2 hsec hk hf hev
          · rw [if_pos rfl]
            exact sp_event b c s n w h hs h0 h1 h2 hsec hk hf hev
    · rw [if_pos rfl]
      exact sp_section b c s w h hb3 hs h0 h1 h2 hsec
theorem ssa_tells (b : Nat) (hb3 : b ≠ 3) : TellerF 207 (.pointer (some ⟨b, 0, none⟩)) 1000000 (ScI b) (· = b) ssaT where
  enters := enters_of Tryz.func207 (by kernel_rfl) rfl
  call := fun st s w h hs => (sp_any b hb3 st s w h hs).mono fun e w' hh => by
    unfold SpSays at hh
    rcases hc : ssaT st s with _ | ⟨st', ps⟩
    · rw [hc] at hh
      exact .inl ⟨rfl, hh.1, hh.2⟩
    · rw [hc] at hh
      obtain ⟨v, a1, a2, a3, a4⟩ := hh
      exact .inr ⟨st', ps, v, rfl, a1, a2, a3, a4⟩
  below := fun st w w' h hb => h.below hb
  grown := fun st w w' row h hg hr => h.grown hg hr
  few := fun st s st' ps h => (ssaT_whole st st' s ps h).2

set_option maxHeartbeats 2000000 in
set_option maxRecDepth 100000 in
theorem ssaparse_any (t : List UInt8) (w : World) (hT : T3 w) (ht : t.length ≤ 1000000) : Calls Tryz.prog 127 #[.string ⟨t.toArray⟩] w (ReadG (ssaR t) w) := by
  have h3 := hT.lt
  obtain ⟨b, hb⟩ : ∃ b, b = w.heap.size + 1 := ⟨_, rfl⟩
  have hb3 : b ≠ 3 := by omega
  have hB1 : Below w.heap.size w (w.alloc (.cells #[.int .i64 0, .int .i64 0] 26)) := (Below.refl _ _).alloc (Nat.le_refl _) _
  have hB0 : Below w.heap.size w ((w.alloc (.cells #[.int .i64 0, .int .i64 0] 26)).alloc (.cells #[.bool false, .bool false, .slice none 0 0] 259)) := hB1.alloc hB1.size _
  have hat := at_a2 w #[.bool false, .bool false, .slice none 0 0] 259 (.cells #[.int .i64 0, .int .i64 0] 26)
  rw [← hb] at hat
  have hI : ScI b sc0 ((w.alloc (.cells #[.int .i64 0, .int .i64 0] 26)).alloc (.cells #[.bool false, .bool false, .slice none 0 0] 259)) := ⟨⟨_, hat, .inl ⟨rfl, rfl, rfl⟩⟩, hT.below hB0⟩
  have hsz : ((w.alloc (.cells #[.int .i64 0, .int .i64 0] 26)).alloc (.cells #[.bool false, .bool false, .slice none 0 0] 259)).heap.size = w.heap.size + 1 + 1 := by simp
  have hw := walkF_any (ssa_tells b hb3) sc0 t _ hI (fun k hk => by rw [hk, hsz]; omega) ht (Nat.le_refl _)
  have F0 := at_a1 w #[.int .i64 0, .int .i64 0] 26 (.cells #[.bool false, .bool false, .slice none 0 0] 259)
  have hnb : ¬ w.heap.size = b := by omega
  unfold WalkGSays at hw
  unfold ReadG ssaR
  rcases hS : walkG ssaT (linesOf t 0) sc0 [] with a | ⟨st, acc⟩
  · rw [hS] at hw
    simp only at hw ⊢
    have HW := Lib.hid hw
    clear hw hS hI hat
    subst hb
    go_enter Tryz.func127, Tryz.ntmps127
    go_wp2_with (go_at_call 205; refine (HW.out).mono ?_; rintro e w1 ⟨rfl, h1⟩; have hf1 := block_away F0 h1 hnb; have d0 := cell_at (j := 0) hf1; have d1 := cell_at (j := 1) hf1; have f0 := free_at (j := 0) hf1; have f1 := free_at (j := 1) hf1; simp only [List.getElem?_toArray, List.getElem?_cons_zero, List.getElem?_cons_succ] at d0 d1)
    refine end_tmp_cell rfl rfl rfl (show _ from store2 hf1 rfl) Tryz.underlying26 rfl (by kernel_rfl) ?_
    have hB2 : Below w.heap.size w w1 := hB0.trans (h1.below (B := w.heap.size) (fun k h => by rw [h]; omega) hB0.size)
    exact ⟨rfl, (hB2.setCell (p := ⟨w.heap.size, 0, none⟩) (Nat.le_refl _) (.int .i64 1)).setCell (p := ⟨w.heap.size, 1, none⟩) (Nat.le_refl _) (.int .i64 a)⟩
  · rw [hS] at hw
    simp only at hw ⊢
    have HW := Lib.hid hw
    clear hw hS hI hat
    subst hb
    go_enter Tryz.func127, Tryz.ntmps127
    go_wp2_with (go_at_call 205; refine (HW.out).mono ?_; rintro e w1 ⟨v1, rfl, hr1, h1⟩; have hf1 := block_away F0 h1 hnb; have d0 := cell_at (j := 0) hf1; have d1 := cell_at (j := 1) hf1; have f0 := free_at (j := 0) hf1; have f1 := free_at (j := 1) hf1; simp only [List.getElem?_toArray, List.getElem?_cons_zero, List.getElem?_cons_succ] at d0 d1)
    refine end_tmp_cell rfl rfl rfl (show _ from store2 hf1 rfl) Tryz.underlying26 rfl (by kernel_rfl) ?_
    have hB2 : Below w.heap.size w w1 := hB0.trans (h1.below (B := w.heap.size) (fun k h => by rw [h]; omega) hB0.size)
    have hr2 : Recs w1 (w.heap.size + 1) 135 3 v1 (acc.map pcR) := hr1.base (by rw [hsz]; omega)
    refine ⟨v1, rfl, ?_, (hB2.setCell (p := ⟨w.heap.size, 0, none⟩) (Nat.le_refl _) _).setCell (p := ⟨w.heap.size, 1, none⟩) (Nat.le_refl _) _⟩
    exact ((hr2.setOld (by omega)).setOld (by omega)).base (by omega)
end Go.Proofs.YtndpcphmndfajaaGreatDoor
