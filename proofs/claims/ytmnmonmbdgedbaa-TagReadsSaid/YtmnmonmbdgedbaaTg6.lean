/- Layer 15 (tag): skip, walked. | Layer 15 (tag): head joined; frames, walked. -/
import Derived.Test.YtmnmonmbdgedbaaTg5
import Derived.Test.YtmnmonmbdgedbaaFrQ
import Derived.Deep.RegionHeld3
import Derived.Deep.LoopGhost

namespace Go.Proofs.Ytmnmonmbdgedbaa
open Go.RowKit
set_option linter.unusedVariables false
set_option linter.unusedSimpArgs false

/-- what an extended tag tells of itself is passed by -/
def skM (v : Int) (fl : UInt8) (m : Rd) : Rd :=
  if tb fl 64 = false then m
  else if v = 3 then ((m.take ((4 : Nat) : Int)).1.take ((numL (m.take ((4 : Nat) : Int)).2 : Nat) : Int)).1
  else ((if m.safe.2 < 6 then m.safe.1.fail 1 (m.bs + m.nx) else m.safe.1).take (m.safe.2 - 4)).1
def TSkip (b : Nat) (m' : Rd) (w : World) (e : Ending) (w' : World) : Prop := e = .returned (.tuple #[]) ∧ RdAt w' b m' ∧ Only b w w'
set_option maxHeartbeats 2000000 in
set_option maxRecDepth 100000 in
theorem skip_no (v : Int) (rv fl : UInt8) (b : Nat) (m : Rd) (w : World) (h : RdAt w b m) (hf : (bits .and .u8 (fl.toNat : Int) 64 == 0) = true) :
    Calls Try.prog 59 #[.agg #[.int .i64 v, .int .u8 rv.toNat, .int .u8 fl.toNat], .pointer (some ⟨b, 0, none⟩)] w (TSkip b m w) := by
  have R := Lib.hid (h.alloc (.cells #[.int .i64 v, .int .u8 rv.toNat, .int .u8 fl.toNat] 23))
  clear h
  unfold TSkip
  go_enter Try.func59, Try.ntmps59
  go_wp2
  (try simp only [Exit.inBlock, Exit.then])
  refine bodyPost_ret (results_none rfl _ _ _) rfl ?_
  exact ⟨rfl, R.out, Only.of_below ((Below.refl _ _).alloc (Nat.le_refl _) _)⟩
set_option maxHeartbeats 2000000 in
set_option maxRecDepth 100000 in
theorem skip_3 (rv fl : UInt8) (b n : Nat) (m m1 m2 : Rd) (s : List UInt8) (w : World) (h : RdAt w b m) (hf : (bits .and .u8 (fl.toNat : Int) 64 == 0) = false) (hn : n < 4294967296)
    (T1 : Hid (∀ w, RdAt w b m → Calls Try.prog 93 #[.pointer (some ⟨b, 0, none⟩), .int .i64 4] w fun e w' => e = .returned (.int .u64 n) ∧ RdAt w' b m1 ∧ Only b w w'))
    (T2 : Hid (∀ w, RdAt w b m1 → Calls Try.prog 54 #[.pointer (some ⟨b, 0, none⟩), .int .i64 n] w fun e w' => e = .returned (.string ⟨s.toArray⟩) ∧ RdAt w' b m2 ∧ Only b w w')) :
    Calls Try.prog 59 #[.agg #[.int .i64 3, .int .u8 rv.toNat, .int .u8 fl.toNat], .pointer (some ⟨b, 0, none⟩)] w (TSkip b m2 w) := by
  have R := Lib.hid (h.alloc (.cells #[.int .i64 3, .int .u8 rv.toNat, .int .u8 fl.toNat] 23))
  have O : Hid (Only b w (w.alloc (.cells #[.int .i64 3, .int .u8 rv.toNat, .int .u8 fl.toNat] 23))) := Lib.hid (Only.of_below ((Below.refl _ _).alloc (Nat.le_refl _) _))
  have hn' : (n : Int) ≤ 4294967295 := by omega
  clear h hn
  unfold TSkip
  go_enter Try.func59, Try.ntmps59
  go_wp2_with (first | (go_at_call 93; (with_reducible refine (T1.out _ R.out).mono ?_); rintro e w1 ⟨rfl, r1, o1⟩; replace O := Lib.hid (O.out.trans o1); replace R := Lib.hid r1; clear r1 o1) | (go_at_call 54; (with_reducible refine (T2.out _ R.out).mono ?_); rintro e w2 ⟨rfl, r1, o1⟩; replace O := Lib.hid (O.out.trans o1); replace R := Lib.hid r1; clear r1 o1))
  (try simp only [Exit.inBlock, Exit.then])
  refine bodyPost_ret (results_none rfl _ _ _) rfl ?_
  exact ⟨rfl, R.out, O.out⟩
set_option maxHeartbeats 2000000 in
set_option maxRecDepth 100000 in
theorem skip_4 (v : Int) (rv fl : UInt8) (b : Nat) (m m1 m2 m3 : Rd) (n at0 : Int) (s : List UInt8) (w : World) (h : RdAt w b m) (hf : (bits .and .u8 (fl.toNat : Int) 64 == 0) = false) (h3 : (v == 3) = false) (hn0 : 0 ≤ n) (hn : n ≤ 8589934592)
    (AT : Hid (∀ w, RdAt w b m → Calls Try.prog 98 #[.pointer (some ⟨b, 0, none⟩)] w fun e w' => e = .returned (.int .i64 at0) ∧ w = w'))
    (T1 : Hid (∀ w, RdAt w b m → Calls Try.prog 55 #[.pointer (some ⟨b, 0, none⟩)] w fun e w' => e = .returned (.int .i64 n) ∧ RdAt w' b m1 ∧ Only b w w'))
    (FL : Hid (n < 6 → ∀ w, RdAt w b m1 → Calls Try.prog 94 #[.pointer (some ⟨b, 0, none⟩), .int .i64 1, .int .i64 at0] w fun e w' => e = .returned (.tuple #[]) ∧ RdAt w' b m2 ∧ Only b w w')) (HM : Hid (¬ n < 6 → m1 = m2))
    (T2 : Hid (∀ w, RdAt w b m2 → Calls Try.prog 54 #[.pointer (some ⟨b, 0, none⟩), .int .i64 (n - 4)] w fun e w' => e = .returned (.string ⟨s.toArray⟩) ∧ RdAt w' b m3 ∧ Only b w w')) :
    Calls Try.prog 59 #[.agg #[.int .i64 v, .int .u8 rv.toNat, .int .u8 fl.toNat], .pointer (some ⟨b, 0, none⟩)] w (TSkip b m3 w) := by
  have R := Lib.hid (h.alloc (.cells #[.int .i64 v, .int .u8 rv.toNat, .int .u8 fl.toNat] 23))
  have O : Hid (Only b w (w.alloc (.cells #[.int .i64 v, .int .u8 rv.toNat, .int .u8 fl.toNat] 23))) := Lib.hid (Only.of_below ((Below.refl _ _).alloc (Nat.le_refl _) _))
  clear h
  unfold TSkip
  by_cases h6 : n < 6
  · have FL2 := Lib.hid (FL.out h6)
    clear FL HM
    go_enter Try.func59, Try.ntmps59
    go_wp2_with (first | (go_at_call 98; (with_reducible refine (AT.out _ R.out).mono ?_); rintro e wx ⟨rfl, rfl⟩) | (go_at_call 55; (with_reducible refine (T1.out _ R.out).mono ?_); rintro e w1 ⟨rfl, r1, o1⟩; replace O := Lib.hid (O.out.trans o1); replace R := Lib.hid r1; clear r1 o1) | (go_at_call 94; (with_reducible refine (FL2.out _ R.out).mono ?_); rintro e w2 ⟨rfl, r1, o1⟩; replace O := Lib.hid (O.out.trans o1); replace R := Lib.hid r1; clear r1 o1) | (go_at_call 54; (with_reducible refine (T2.out _ R.out).mono ?_); rintro e w3 ⟨rfl, r1, o1⟩; replace O := Lib.hid (O.out.trans o1); replace R := Lib.hid r1; clear r1 o1))
    go_end0
    exact ⟨rfl, R.out, O.out⟩
  · have hm := HM.out h6
    subst hm
    clear FL HM
    go_enter Try.func59, Try.ntmps59
    go_wp2_with (first | (go_at_call 98; (with_reducible refine (AT.out _ R.out).mono ?_); rintro e wx ⟨rfl, rfl⟩) | (go_at_call 55; (with_reducible refine (T1.out _ R.out).mono ?_); rintro e w1 ⟨rfl, r1, o1⟩; replace O := Lib.hid (O.out.trans o1); replace R := Lib.hid r1; clear r1 o1) | (go_at_call 54; (with_reducible refine (T2.out _ R.out).mono ?_); rintro e w3 ⟨rfl, r1, o1⟩; replace O := Lib.hid (O.out.trans o1); replace R := Lib.hid r1; clear r1 o1))
    go_end0
    exact ⟨rfl, R.out, O.out⟩
theorem tb64 (fl : UInt8) : (bits .and .u8 (fl.toNat : Int) 64 == 0) = !tb fl 64 := by
  have h := and_bits fl 64 (by decide)
  rw [show ((64 : Nat) : Int) = 64 from rfl] at h
  rw [h]
  unfold tb
  rw [bne, Bool.not_not]
theorem skM_ok (v : Int) (fl : UInt8) {m : Rd} (h : m.Ok) : (skM v fl m).Ok := by
  unfold skM
  split
  · exact h
  · split
    · exact take_ok _ (take_ok _ h)
    · refine take_ok _ ?_
      split
      · exact (fr_safe_ok h).fail _ _
      · exact fr_safe_ok h
theorem skip_any (v : Int) (rv fl : UInt8) (b : Nat) (m : Rd) (w : World) (h : RdAt w b m) (hm : m.Ok) :
    Calls Try.prog 59 #[.agg #[.int .i64 v, .int .u8 rv.toNat, .int .u8 fl.toNat], .pointer (some ⟨b, 0, none⟩)] w (TSkip b (skM v fl m) w) := by
  have t := tb64 fl
  unfold skM
  by_cases h1 : tb fl 64 = false
  · rw [if_pos h1]
    rw [h1] at t
    exact skip_no v rv fl b m w h t
  · rw [if_neg h1]
    have h1' : tb fl 64 = true := by simpa using h1
    rw [h1'] at t
    by_cases h3 : v = 3
    · rw [if_pos h3]
      subst h3
      have l4 := take_len m ((4 : Nat) : Int)
      have hb := numL_bound (m.take ((4 : Nat) : Int)).2
      have hp : (256 : Nat) ^ (m.take ((4 : Nat) : Int)).2.length ≤ 256 ^ 4 := Nat.pow_le_pow_right (by decide) (by simpa using l4)
      exact skip_3 rv fl b _ m _ _ _ w h t (by omega) (Lib.hid fun w h => inbig_any b m 4 4 w h hm (Lib.hid (by decide))) (Lib.hid fun w h => take_any b _ _ w h (take_ok _ hm))
    · rw [if_neg h3]
      have hs0 := safe_nonneg m
      have hs1 := safe_top m
      have ok2 := fr_safe_ok hm
      refine skip_4 v rv fl b m _ (if m.safe.2 < 6 then m.safe.1.fail 1 (m.bs + m.nx) else m.safe.1) _ m.safe.2 (m.bs + m.nx) _ w h t (no_case h3) hs0 (by omega) (Lib.hid fun w h => at_any b m w h hm) (Lib.hid fun w h => insafe_any b m w h hm) (Lib.hid ?_) (Lib.hid ?_) (Lib.hid fun w h => take_any b _ _ w h ?_)
      · intro h6 w h
        rw [if_pos h6]
        exact fail_any b _ 1 _ w h
      · intro h6
        rw [if_neg h6]
      · split
        · exact ok2.fail _ _
        · exact ok2
end Go.Proofs.Ytmnmonmbdgedbaa

namespace Go.Proofs.Ytmnmonmbdgedbaa
open Go.RowKit
set_option linter.unusedVariables false
set_option linter.unusedSimpArgs false

theorem tg_want_ok {m : Rd} (s : List UInt8) (hm : m.Ok) : (m.want s).1.Ok := by
  unfold Rd.want
  split
  · split
    · exact hm.fail _ _
    · split
      · exact hm.fail _ _
      · rename_i h
        obtain ⟨h0, h1, h2, h3⟩ := hm
        refine ⟨?_, h1, h2, h3⟩
        rw [List.length_drop] at h
        show m.nx + s.length ≤ m.t.length
        omega
  · exact hm
/-- a tag's head, read -/
def hdM (m : Rd) : Rd × Hd :=
  let a1 := (m.want [73, 68, 51]).1.take ((1 : Nat) : Int)
  let a2 := a1.1.take ((1 : Nat) : Int)
  let a3 := a2.1.take ((1 : Nat) : Int)
  let v : Int := (numL a1.2 : Nat)
  let rv := UInt8.ofNat (numL a2.2)
  let fl := UInt8.ofNat (numL a3.2)
  if a3.1.cd ≠ 0 then (a3.1, ⟨0, 0, 0⟩) else
    (fail4 (decide (letters v = 0)) ((rv.toNat : Int) == 255) (anB fl (allowN v)) (decide (v = 2) && tb fl 64) a3.1, ⟨v, rv, fl⟩)
theorem fail4_ok (x1 x2 x3 x4 : Bool) {m : Rd} (h : m.Ok) : (fail4 x1 x2 x3 x4 m).Ok := by
  unfold fail4
  rcases x1 with _ | _ <;> rcases x2 with _ | _ <;> rcases x3 with _ | _ <;> rcases x4 with _ | _ <;> simp <;> first | exact h | exact Rd.Ok.fail h _ _ | exact Rd.Ok.fail (Rd.Ok.fail h _ _) _ _ | exact Rd.Ok.fail (Rd.Ok.fail (Rd.Ok.fail h _ _) _ _) _ _ | exact Rd.Ok.fail (Rd.Ok.fail (Rd.Ok.fail (Rd.Ok.fail h _ _) _ _) _ _) _ _
theorem hdM_ok {m : Rd} (h : m.Ok) : (hdM m).1.Ok := by
  unfold hdM
  simp only
  split
  · exact take_ok _ (take_ok _ (take_ok _ (tg_want_ok _ h)))
  · exact fail4_ok _ _ _ _ (take_ok _ (take_ok _ (take_ok _ (tg_want_ok _ h))))
theorem one_le (m : Rd) : numL (m.take ((1 : Nat) : Int)).2 ≤ 255 := by
  have h1 := numL_bound (m.take ((1 : Nat) : Int)).2
  have h2 := take_len m ((1 : Nat) : Int)
  have h3 : (256 : Nat) ^ (m.take ((1 : Nat) : Int)).2.length ≤ 256 ^ 1 := Nat.pow_le_pow_right (by decide) (by simpa using h2)
  omega
theorem thead_any (b : Nat) (m : Rd) (w : World) (h : RdAt w b m) (hm : m.Ok) :
    Calls Try.prog 53 #[.pointer (some ⟨b, 0, none⟩)] w (THead b (hdM m).1 (hdM m).2.v (hdM m).2.rv.toNat (hdM m).2.fl.toNat w) := by
  have W1 := Lib.hid (fun w h => want_any b m [73, 68, 51] w h hm (by decide))
  have ok1 := tg_want_ok [73, 68, 51] hm
  unfold hdM
  simp only
  generalize (m.want [73, 68, 51]).2 = ok at *
  generalize (m.want [73, 68, 51]).1 = m1 at *
  have T1 := Lib.hid (fun w h => inbig_any b m1 1 1 w h ok1 (Lib.hid (by decide)))
  have ok2 := take_ok ((1 : Nat) : Int) ok1
  have l1 := one_le m1
  generalize m1.take ((1 : Nat) : Int) = a1 at *
  obtain ⟨m2, s1⟩ := a1
  simp only at T1 ok2 l1 ⊢
  have T2 := Lib.hid (fun w h => inbig_any b m2 1 1 w h ok2 (Lib.hid (by decide)))
  have ok3 := take_ok ((1 : Nat) : Int) ok2
  have l2 := one_le m2
  have n2 := u8_num (m2.take ((1 : Nat) : Int)).2 (take_len m2 ((1 : Nat) : Int))
  generalize m2.take ((1 : Nat) : Int) = a2 at *
  obtain ⟨m3, s2⟩ := a2
  simp only at T2 ok3 l2 n2 ⊢
  have T3 := Lib.hid (fun w h => inbig_any b m3 1 1 w h ok3 (Lib.hid (by decide)))
  have ok4 := take_ok ((1 : Nat) : Int) ok3
  have l3 := one_le m3
  have n3 := u8_num (m3.take ((1 : Nat) : Int)).2 (take_len m3 ((1 : Nat) : Int))
  generalize m3.take ((1 : Nat) : Int) = a3 at *
  obtain ⟨m4, s3⟩ := a3
  simp only at T3 ok4 l3 n3 ⊢
  have FA := Lib.hid (fun w h => fault_any b m4 w h)
  by_cases hc : m4.cd = 0
  · rw [if_neg (by simpa using hc)]
    rw [hc] at FA
    simp only
    rw [← n2] at T2 l2
    rw [← n3] at T3 l3
    generalize UInt8.ofNat (numL s2) = rv at *
    generalize UInt8.ofNat (numL s3) = fl at *
    generalize numL s1 = v1 at *
    have hlt := allowN_lt (v1 : Int)
    refine thead_in b m m1 m2 m3 m4 v1 rv.toNat fl.toNat _ ok _ _ _ _ _ _ w h l1 l2 l3 W1 T1 T2 T3 FA (Lib.hid fun w => letters_any v1 w) (Lib.hid fun w => allow_any v1 w) ?_ rfl ?_ ?_
    · rw [Bool.eq_iff_iff]; simp
    · rw [an_bits _ _ hlt]; rfl
    · by_cases h2 : (v1 : Int) = 2
      · right
        refine ⟨by simpa using h2, ?_⟩
        have e := and_bits fl 64 (by decide)
        rw [show ((64 : Nat) : Int) = 64 from rfl] at e
        rw [e]
        simp [h2, tb]
      · left
        exact ⟨by simpa using h2, by simp [h2]⟩
  · rw [if_pos (by simpa using hc)]
    exact thead_bad b m m1 m2 m3 m4 (numL s1) (numL s2) (numL s3) m4.cd m4.pl ok w h l1 l2 l3 (by simpa using hc) W1 T1 T2 T3 FA
/-- frames read, one behind the other: the reader behind them, the frames -/
def frsS (v : Int) (sp : Bool) : Nat → Rd → List Fr → Rd × List Fr
  | 0, m, fs => (m, fs)
  | g + 1, m, fs => if (frParse v sp m).2.2 = true then frsS v sp g (frParse v sp m).1 (fs ++ [(frParse v sp m).2.1]) else ((frParse v sp m).1, fs)
/-- the noughts behind the frames -/
def nzAt (s : List UInt8) : Nat := s.findIdx (fun c => c != 0)
def padM (m : Rd) : Rd := if nzAt m.rest.2 < m.rest.2.length then m.rest.1.fail 1 (m.bs + m.nx + (nzAt m.rest.2 : Nat)) else m.rest.1
def frsM (v : Int) (sp : Bool) (m : Rd) : Rd × List Fr := (padM (frsS v sp (m.t.length + 1) m []).1, (frsS v sp (m.t.length + 1) m []).2)
theorem fparse_on {v : Int} {sp : Bool} {m : Rd} (hm : m.Ok) (h : (frParse v sp m).2.2 = true) : (frParse v sp m).1.t = m.t ∧ (frParse v sp m).1.bs = m.bs ∧ m.nx + 6 ≤ (frParse v sp m).1.nx ∧ (frParse v sp m).1.nx ≤ m.t.length ∧ (frParse v sp m).1.Ok := by
  obtain ⟨k, h1, h2, h3, _⟩ := frParse_sound v sp m (frParse v sp m).1 (frParse v sp m).2.1 hm.1 (by rw [← h])
  rw [h1]
  exact ⟨rfl, rfl, by show m.nx + 6 ≤ m.nx + k; omega, h3, h3, hm.2⟩
theorem fparse_stay {v : Int} {sp : Bool} {m : Rd} (hm : m.Ok) (hb : m.bs ≤ 2000000000000) (h : (frParse v sp m).2.2 = false) : (frParse v sp m).1.Ok ∧ (frParse v sp m).1.bs = m.bs := by
  unfold frParse at h ⊢
  split
  · exact ⟨hm, rfl⟩
  · rename_i hg
    rw [if_neg hg] at h
    have key : (frMain v sp m).m5.Ok ∧ (frMain v sp m).m5.bs = m.bs := by
      unfold frMain
      simp only
      have o1 := take_ok ((letters v : Nat) : Int) hm
      have b1 := take_bs m ((letters v : Nat) : Int)
      have o2 : (if wrongN (m.take ((letters v : Nat) : Int)).2 < (m.take ((letters v : Nat) : Int)).2.length then (m.take ((letters v : Nat) : Int)).1.fail 1 (m.bs + m.nx + (wrongN (m.take ((letters v : Nat) : Int)).2 : Nat)) else (m.take ((letters v : Nat) : Int)).1).Ok ∧
        (if wrongN (m.take ((letters v : Nat) : Int)).2 < (m.take ((letters v : Nat) : Int)).2.length then (m.take ((letters v : Nat) : Int)).1.fail 1 (m.bs + m.nx + (wrongN (m.take ((letters v : Nat) : Int)).2 : Nat)) else (m.take ((letters v : Nat) : Int)).1).bs = m.bs := by
        split
        · exact ⟨o1.fail _ _, by rw [Rd.fail_bs, b1]⟩
        · exact ⟨o1, b1⟩
      generalize (if wrongN (m.take ((letters v : Nat) : Int)).2 < (m.take ((letters v : Nat) : Int)).2.length then (m.take ((letters v : Nat) : Int)).1.fail 1 (m.bs + m.nx + (wrongN (m.take ((letters v : Nat) : Int)).2 : Nat)) else (m.take ((letters v : Nat) : Int)).1) = r at *
      have o3 := sizeM_ok v o2.1
      have b3 := sizeM_bs v r
      have o4 : (if v = 2 then ((sizeM v r).1, ([] : List UInt8)) else (sizeM v r).1.take ((2 : Nat) : Int)).1.Ok ∧ (if v = 2 then ((sizeM v r).1, ([] : List UInt8)) else (sizeM v r).1.take ((2 : Nat) : Int)).1.bs = m.bs := by
        split
        · exact ⟨o3, b3.trans o2.2⟩
        · exact ⟨take_ok _ o3, by rw [take_bs, b3, o2.2]⟩
      exact ⟨take_ok _ o4.1, by rw [take_bs, o4.2]⟩
    unfold frEnd at h ⊢
    split
    · exact key
    · split
      · exact ⟨key.1.fail _ _, by rw [Rd.fail_bs]; exact key.2⟩
      · exact key
theorem info_frame : (Try.prog.info? 47).map (fun i => (i.zero, i.size, i.bytes)) = some (some (.agg #[.string ⟨#[]⟩, .int .u8 0, .int .u8 0, .int .u8 0, .string ⟨#[]⟩, .int .i64 0]), 6, 56) := by kernel_rfl
theorem one_frR (x : Fr) : ∀ u ∈ frR x, u.oneCell' = true := by
  intro u hu
  simp only [frR, List.mem_cons, List.not_mem_nil, or_false] at hu
  rcases hu with rfl | rfl | rfl | rfl | rfl | rfl <;> rfl
theorem Recs.onlyT {w w' : World} {base e size b : Nat} {v : Value} {L : List (List Value)} (h : Recs w base e size v L) (k : Only b w w') (hb : b < base) : Recs w' base e size v L := by
  refine h.kept (row := some b) k ?_
  by_cases hn : v.ownBlock = none
  · exact .inl hn
  · right
    intro e
    have := (h.lt b e).1
    omega
theorem Only.grownT {w wr w' : World} {b : Nat} {v : Value} (h : Only b w wr) (hg : wr.grownBy w' v.ownBlock) (hv : ∀ k, v.ownBlock = some k → w.heap.size ≤ k) : Only b w w' :=
  ⟨hg.os.trans h.os, hg.tape.trans h.tape, hg.output.trans h.output, Nat.le_trans h.size hg.size, fun k hk hne => (hg.block k (Nat.lt_of_lt_of_le hk h.size) (fun e => by have := hv k e.symm; omega)).trans (h.block k hk hne)⟩
def TFrames (b : Nat) (m' : Rd) (fs : List Fr) (w : World) (e : Ending) (w' : World) : Prop := ∃ u, e = .returned u ∧ Recs w' w.heap.size 47 6 u (fs.map frR) ∧ RdAt w' b m' ∧ Only b w w'
end Go.Proofs.Ytmnmonmbdgedbaa
