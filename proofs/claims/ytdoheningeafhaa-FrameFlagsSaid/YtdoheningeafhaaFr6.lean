/- Layer 13 (frame): frame.Parse, joined. -/
import Derived.Test.YtdoheningeafhaaFr5
namespace Go.Proofs.Ytdoheningeafhaa
open Go.RowKit
set_option linter.unusedVariables false
set_option linter.unusedSimpArgs false

theorem num_pair (l : List UInt8) (h : l.length ≤ 2) : numL l = (UInt8.ofNat (numL l / 256)).toNat * 256 + (UInt8.ofNat (numL l % 256)).toNat := by
  have h1 := numL_bound l
  have h2 : (256 : Nat) ^ l.length ≤ 256 ^ 2 := Nat.pow_le_pow_right (by decide) h
  rw [UInt8.toNat_ofNat', UInt8.toNat_ofNat']
  omega
def FrSays (b : Nat) (r : Rd × Fr × Bool) (w : World) : Ending → World → Prop := FParse b r.1 r.2.1 r.2.2 w
theorem fparse_any (v : Int) (sp : Bool) (b : Nat) (m : Rd) (w : World) (h : RdAt w b m) (hm : m.Ok) (hb : m.bs ≤ 2000000000000) :
    Calls Try.prog 44 #[.int .i64 v, .pointer (some ⟨b, 0, none⟩), .bool sp] w (FrSays b (frParse v sp m) w) := by
  unfold FrSays frParse
  have LT := Lib.hid (fun w => letters_any v w)
  have FA := Lib.hid (fun w h => fault_any b m w h)
  have LE := Lib.hid (fun w h => left_any b m w h hm)
  have PK := Lib.hid (fun w h => peek_any b m 1 w h hm)
  by_cases h0 : letters v = 0
  · rw [if_pos (.inl h0)]
    rw [h0] at LT
    exact fparse_no0 v sp b 0 m _ _ _ _ w h LT FA LE PK
  have t0 : ((letters v : Int) == 0) = false := by simpa using h0
  by_cases h1 : m.cd = 0
  rotate_left
  · rw [if_pos (.inr (.inl h1))]
    exact fparse_no1 v sp b _ m _ _ _ _ w h LT FA LE PK t0 (by simpa using h1)
  have t1 : (m.cd != 0) = false := by simpa using h1
  by_cases h2 : m.left = 0
  · rw [if_pos (.inr (.inr (.inl h2)))]
    exact fparse_no2 v sp b _ m _ _ _ _ w h LT FA LE PK t0 t1 (by simpa using h2)
  have t2 : (m.left == 0) = false := by simpa using h2
  by_cases h3 : m.peek 1 = [0]
  · rw [if_pos (.inr (.inr (.inr h3)))]
    exact fparse_no3 v sp b _ m _ _ _ _ w h LT FA LE PK t0 t1 t2 (by simpa using h3)
  have t3 : (m.peek 1 == [0]) = false := by simpa using h3
  rw [if_neg (by simp [h0, h1, h2, h3])]
  rw [h1] at FA
  clear h2 h3 t0 t1
  have hv : v = 2 ∨ v = 3 ∨ v = 4 := by
    unfold letters at h0
    by_cases a : v = 2
    · exact .inl a
    · by_cases b : v = 3
      · exact .inr (.inl b)
      · by_cases c : v = 4
        · exact .inr (.inr c)
        · rw [if_neg a, if_neg b, if_neg c] at h0
          exact absurd rfl h0
  have hn4 : letters v ≤ 4 := by unfold letters; split; decide; split; decide; split; decide; decide
  unfold frMain
  have T1 := Lib.hid (fun w h => take_any b m ((letters v : Nat) : Int) w h hm)
  have AT0 := Lib.hid (fun w h => at_any b m w h hm)
  have ok1 := take_ok ((letters v : Nat) : Int) hm
  have l1 := take_len m ((letters v : Nat) : Int)
  have b1 := take_bs m ((letters v : Nat) : Int)
  have c1 : (m.take ((letters v : Nat) : Int)).1.cd = 0 ∨ (m.take ((letters v : Nat) : Int)).2 = [] := by
    unfold Rd.take
    rw [if_pos h1]
    by_cases hh : ((letters v : Nat) : Int) < 0 ∨ (m.t.length : Int) - m.nx < ((letters v : Nat) : Int)
    · exact .inr (by rw [if_pos hh])
    · exact .inl (by rw [if_neg hh]; exact h1)
  rw [Int.toNat_natCast] at l1
  simp only
  generalize m.take ((letters v : Nat) : Int) = a1 at *
  obtain ⟨m1, id⟩ := a1
  simp only at T1 ok1 l1 b1 c1 ⊢
  have hid : id.length ≤ 4 := Nat.le_trans l1 hn4
  have WR := Lib.hid (fun w => wrong_any id w (by omega))
  have FL := Lib.hid (fun w h => fail_any b m1 1 (m.bs + m.nx + (wrongN id : Nat)) w h)
  have hnx := hm.1
  have hnt := hm.2.1
  have hbs := hm.2.2.1
  obtain ⟨at0, hat0⟩ : ∃ x, x = m.bs + m.nx := ⟨_, rfl⟩
  have hat : 0 ≤ at0 ∧ at0 ≤ 4000000000000 := by omega
  rw [← hat0] at AT0 FL
  unfold frEnd
  simp only
  rw [← hat0]
  clear hat0 l1
  generalize wrongN id = wn at *
  generalize hm2 : (if wn < id.length then m1.fail 1 (at0 + (wn : Nat)) else m1) = m2 at *
  have ok2 : m2.Ok := by
    rw [← hm2]; split
    · exact ok1.fail _ _
    · exact ok1
  have b2 : m2.bs = m.bs := by
    rw [← hm2, ← b1]; split
    · exact Rd.fail_bs _ _ _
    · rfl
  have SZ := Lib.hid (fun w h => fsize_any v b m2 w h ok2)
  have ok3 := sizeM_ok v ok2
  have b3 := (sizeM_bs v m2).trans b2
  have dead3 : m2.cd ≠ 0 → (sizeM v m2).1.cd ≠ 0 := fun hd => by rw [sizeM_dead v hd]; exact hd
  generalize sizeM v m2 = a3 at *
  obtain ⟨m3, many⟩ := a3
  simp only at SZ ok3 b3 dead3 ⊢
  rcases hv with rfl | rfl | rfl
  · rw [if_pos rfl]
    simp only
    generalize hz1 : UInt8.ofNat (numL [] / 256) = st at *
    generalize hz2 : UInt8.ofNat (numL [] % 256) = fm at *
    have E5 : st = 0 := hz1.symm.trans rfl
    have E6 : fm = 0 := hz2.symm.trans rfl
    clear hz1 hz2
    have AT2 := Lib.hid (fun w h => at_any b m3 w h ok3)
    have T5 := Lib.hid (fun w h => take_any b m3 ((many : Nat) : Int) w h ok3)
    have hd5 := take_le_text m3 ((many : Nat) : Int)
    have hle := ok3.2.1
    have hnx4 := ok3.1
    have hat2 : m3.bs + m3.nx ≤ 3000000000000 := by omega
    have dead5 : m3.cd ≠ 0 → (m3.take ((many : Nat) : Int)).1.cd ≠ 0 := fun hd => by rw [take_dead hd]; exact hd
    generalize m3.take ((many : Nat) : Int) = a5 at *
    obtain ⟨m5, data⟩ := a5
    simp only at T5 hd5 dead5 ⊢
    generalize m3.bs + m3.nx = at2 at *
    rw [if_neg (show ¬ ((2 : Int) = 4 ∧ sp = true) from fun x => absurd x.1 (by decide))]
    have FA5 := Lib.hid (fun w h => fault_any b m5 w h)
    by_cases hw : wn < id.length
    · have hw' : (wn : Int) < id.length := by omega
      rw [if_pos hw] at hm2
      have hc1 : m1.cd = 0 := c1.resolve_right (by intro e; rw [e] at hw; simp at hw)
      have hc2 : m2.cd ≠ 0 := by rw [← hm2, Rd.fail_yes m1 1 _ hc1 (by decide)]; show (1 : Int) ≠ 0; decide
      have hc5 : m5.cd ≠ 0 := dead5 (dead3 hc2)
      rw [if_pos hc5]
      rw [hm2] at FL
      exact fparse_210 b m m1 m2 m3 m3 m5 m5 m5 _ _ at0 at2 _ _ 0 0 wn many _ id data [] st fm fm 0 _ _ sp w h LT FA LE PK t2 t3 AT0 T1 WR hw' hat hid FL SZ rfl E5 E6 rfl AT2 T5 FA5 hc5 rfl rfl rfl
    · have hw' : ¬ (wn : Int) < id.length := by omega
      rw [if_neg hw] at hm2
      have FI := Lib.hid (fun pb w hf => fill_any 2 pb id st fm data at0 at2 w hf (Nat.le_trans hd5 hle) hat2)
      have FL2 := Lib.hid (fun w h => fail_any b m5 (fillC 2 fm data at2).1 (fillC 2 fm data at2).2 w h)
      refine fparse_200 b m m1 m2 m3 m3 m5 _ _ _ _ at0 at2 _ _ _ _ wn many _ id data _ st fm fm _ _ _ sp w h LT FA LE PK t2 t3 AT0 T1 WR hw' hm2 SZ rfl E5 E6 rfl AT2 T5 FA5 FI FL2 ?_
      by_cases hc5 : m5.cd = 0
      · refine .inr ⟨hc5, ?_⟩
        rw [if_neg (show ¬ (m5.cd ≠ 0) from fun z => z hc5)]
        by_cases hc : (fillC 2 fm data at2).1 = 0
        · rw [if_neg (show ¬ ((fillC 2 fm data at2).1 ≠ 0) from fun z => z hc)]; exact .inr ⟨hc, rfl, rfl, rfl⟩
        · rw [if_pos (show (fillC 2 fm data at2).1 ≠ 0 from hc)]; exact .inl ⟨hc, rfl, rfl, rfl⟩
      · rw [if_pos (show m5.cd ≠ 0 from hc5)]; exact .inl ⟨hc5, rfl, rfl, rfl⟩
  · rw [if_neg (show ¬ (3 : Int) = 2 by decide)]
    have B2 := Lib.hid (fun w h => inbig_any b m3 2 2 w h ok3 (Lib.hid (by decide)))
    have ok4 := take_ok ((2 : Nat) : Int) ok3
    have l4 := take_len m3 ((2 : Nat) : Int)
    have b4 := (take_bs m3 ((2 : Nat) : Int)).trans b3
    have dead4 : m3.cd ≠ 0 → (m3.take ((2 : Nat) : Int)).1.cd ≠ 0 := fun hd => by rw [take_dead hd]; exact hd
    generalize m3.take ((2 : Nat) : Int) = a4 at *
    obtain ⟨m4, fl⟩ := a4
    simp only at B2 ok4 l4 b4 dead4 ⊢
    have hp := num_pair fl (by simpa using l4)
    rw [hp] at B2
    generalize UInt8.ofNat (numL fl / 256) = st at *
    generalize UInt8.ofNat (numL fl % 256) = fm at *
    have AT2 := Lib.hid (fun w h => at_any b m4 w h ok4)
    have T5 := Lib.hid (fun w h => take_any b m4 ((many : Nat) : Int) w h ok4)
    have hd5 := take_le_text m4 ((many : Nat) : Int)
    have hle := ok4.2.1
    have hnx4 := ok4.1
    have hat2 : m4.bs + m4.nx ≤ 3000000000000 := by omega
    have dead5 : m4.cd ≠ 0 → (m4.take ((many : Nat) : Int)).1.cd ≠ 0 := fun hd => by rw [take_dead hd]; exact hd
    generalize m4.take ((many : Nat) : Int) = a5 at *
    obtain ⟨m5, data⟩ := a5
    simp only at T5 hd5 dead5 ⊢
    generalize m4.bs + m4.nx = at2 at *
    rw [if_neg (show ¬ ((3 : Int) = 4 ∧ sp = true) from fun x => absurd x.1 (by decide))]
    have FA5 := Lib.hid (fun w h => fault_any b m5 w h)
    by_cases hw : wn < id.length
    · have hw' : (wn : Int) < id.length := by omega
      rw [if_pos hw] at hm2
      have hc1 : m1.cd = 0 := c1.resolve_right (by intro e; rw [e] at hw; simp at hw)
      have hc2 : m2.cd ≠ 0 := by rw [← hm2, Rd.fail_yes m1 1 _ hc1 (by decide)]; show (1 : Int) ≠ 0; decide
      have hc5 : m5.cd ≠ 0 := dead5 (dead4 (dead3 hc2))
      rw [if_pos hc5]
      rw [hm2] at FL
      exact fparse_310 b m m1 m2 m3 m4 m5 m5 m5 _ _ at0 at2 _ _ 0 0 wn many _ id data [] st fm fm 0 _ _ sp w h LT FA LE PK t2 t3 AT0 T1 WR hw' hat hid FL SZ B2 rfl AT2 T5 FA5 hc5 rfl rfl rfl
    · have hw' : ¬ (wn : Int) < id.length := by omega
      rw [if_neg hw] at hm2
      have FI := Lib.hid (fun pb w hf => fill_any 3 pb id st fm data at0 at2 w hf (Nat.le_trans hd5 hle) hat2)
      have FL2 := Lib.hid (fun w h => fail_any b m5 (fillC 3 fm data at2).1 (fillC 3 fm data at2).2 w h)
      refine fparse_300 b m m1 m2 m3 m4 m5 _ _ _ _ at0 at2 _ _ _ _ wn many _ id data _ st fm fm _ _ _ sp w h LT FA LE PK t2 t3 AT0 T1 WR hw' hm2 SZ B2 rfl AT2 T5 FA5 FI FL2 ?_
      by_cases hc5 : m5.cd = 0
      · refine .inr ⟨hc5, ?_⟩
        rw [if_neg (show ¬ (m5.cd ≠ 0) from fun z => z hc5)]
        by_cases hc : (fillC 3 fm data at2).1 = 0
        · rw [if_neg (show ¬ ((fillC 3 fm data at2).1 ≠ 0) from fun z => z hc)]; exact .inr ⟨hc, rfl, rfl, rfl⟩
        · rw [if_pos (show (fillC 3 fm data at2).1 ≠ 0 from hc)]; exact .inl ⟨hc, rfl, rfl, rfl⟩
      · rw [if_pos (show m5.cd ≠ 0 from hc5)]; exact .inl ⟨hc5, rfl, rfl, rfl⟩
  · rw [if_neg (show ¬ (4 : Int) = 2 by decide)]
    have B2 := Lib.hid (fun w h => inbig_any b m3 2 2 w h ok3 (Lib.hid (by decide)))
    have ok4 := take_ok ((2 : Nat) : Int) ok3
    have l4 := take_len m3 ((2 : Nat) : Int)
    have b4 := (take_bs m3 ((2 : Nat) : Int)).trans b3
    have dead4 : m3.cd ≠ 0 → (m3.take ((2 : Nat) : Int)).1.cd ≠ 0 := fun hd => by rw [take_dead hd]; exact hd
    generalize m3.take ((2 : Nat) : Int) = a4 at *
    obtain ⟨m4, fl⟩ := a4
    simp only at B2 ok4 l4 b4 dead4 ⊢
    have hp := num_pair fl (by simpa using l4)
    rw [hp] at B2
    generalize UInt8.ofNat (numL fl / 256) = st at *
    generalize UInt8.ofNat (numL fl % 256) = fm at *
    have AT2 := Lib.hid (fun w h => at_any b m4 w h ok4)
    have T5 := Lib.hid (fun w h => take_any b m4 ((many : Nat) : Int) w h ok4)
    have hd5 := take_le_text m4 ((many : Nat) : Int)
    have hle := ok4.2.1
    have hnx4 := ok4.1
    have hat2 : m4.bs + m4.nx ≤ 3000000000000 := by omega
    have dead5 : m4.cd ≠ 0 → (m4.take ((many : Nat) : Int)).1.cd ≠ 0 := fun hd => by rw [take_dead hd]; exact hd
    generalize m4.take ((many : Nat) : Int) = a5 at *
    obtain ⟨m5, data⟩ := a5
    simp only at T5 hd5 dead5 ⊢
    generalize m4.bs + m4.nx = at2 at *
    rcases sp with _ | _
    · simp only [true_and, Bool.false_eq_true, if_false]
      have FA5 := Lib.hid (fun w h => fault_any b m5 w h)
      by_cases hw : wn < id.length
      · have hw' : (wn : Int) < id.length := by omega
        rw [if_pos hw] at hm2
        have hc1 : m1.cd = 0 := c1.resolve_right (by intro e; rw [e] at hw; simp at hw)
        have hc2 : m2.cd ≠ 0 := by rw [← hm2, Rd.fail_yes m1 1 _ hc1 (by decide)]; show (1 : Int) ≠ 0; decide
        have hc5 : m5.cd ≠ 0 := dead5 (dead4 (dead3 hc2))
        rw [if_pos hc5]
        rw [hm2] at FL
        exact fparse_410 b m m1 m2 m3 m4 m5 m5 m5 _ _ at0 at2 _ _ 0 0 wn many _ id data [] st fm fm 0 _ _ w h LT FA LE PK t2 t3 AT0 T1 WR hw' hat hid FL SZ B2 rfl AT2 T5 FA5 hc5 rfl rfl rfl
      · have hw' : ¬ (wn : Int) < id.length := by omega
        rw [if_neg hw] at hm2
        have FI := Lib.hid (fun pb w hf => fill_any 4 pb id st fm data at0 at2 w hf (Nat.le_trans hd5 hle) hat2)
        have FL2 := Lib.hid (fun w h => fail_any b m5 (fillC 4 fm data at2).1 (fillC 4 fm data at2).2 w h)
        refine fparse_400 b m m1 m2 m3 m4 m5 _ _ _ _ at0 at2 _ _ _ _ wn many _ id data _ st fm fm _ _ _ w h LT FA LE PK t2 t3 AT0 T1 WR hw' hm2 SZ B2 rfl AT2 T5 FA5 FI FL2 ?_
        by_cases hc5 : m5.cd = 0
        · refine .inr ⟨hc5, ?_⟩
          rw [if_neg (show ¬ (m5.cd ≠ 0) from fun z => z hc5)]
          by_cases hc : (fillC 4 fm data at2).1 = 0
          · rw [if_neg (show ¬ ((fillC 4 fm data at2).1 ≠ 0) from fun z => z hc)]; exact .inr ⟨hc, rfl, rfl, rfl⟩
          · rw [if_pos (show (fillC 4 fm data at2).1 ≠ 0 from hc)]; exact .inl ⟨hc, rfl, rfl, rfl⟩
        · rw [if_pos (show m5.cd ≠ 0 from hc5)]; exact .inl ⟨hc5, rfl, rfl, rfl⟩
    · simp only [true_and, if_true]
      have FA5 := Lib.hid (fun w h => fault_any b m5 w h)
      by_cases hw : wn < id.length
      · have hw' : (wn : Int) < id.length := by omega
        rw [if_pos hw] at hm2
        have hc1 : m1.cd = 0 := c1.resolve_right (by intro e; rw [e] at hw; simp at hw)
        have hc2 : m2.cd ≠ 0 := by rw [← hm2, Rd.fail_yes m1 1 _ hc1 (by decide)]; show (1 : Int) ≠ 0; decide
        have hc5 : m5.cd ≠ 0 := dead5 (dead4 (dead3 hc2))
        rw [if_pos hc5]
        rw [hm2] at FL
        exact fparse_411 b m m1 m2 m3 m4 m5 m5 m5 _ _ at0 at2 _ _ 0 0 wn many _ id data [] st fm (fm ||| 2) 0 _ _ w h LT FA LE PK t2 t3 AT0 T1 WR hw' hat hid FL SZ B2 (or_two fm) AT2 T5 FA5 hc5 rfl rfl rfl
      · have hw' : ¬ (wn : Int) < id.length := by omega
        rw [if_neg hw] at hm2
        have FI := Lib.hid (fun pb w hf => fill_any 4 pb id st (fm ||| 2) data at0 at2 w hf (Nat.le_trans hd5 hle) hat2)
        have FL2 := Lib.hid (fun w h => fail_any b m5 (fillC 4 (fm ||| 2) data at2).1 (fillC 4 (fm ||| 2) data at2).2 w h)
        refine fparse_401 b m m1 m2 m3 m4 m5 _ _ _ _ at0 at2 _ _ _ _ wn many _ id data _ st fm (fm ||| 2) _ _ _ w h LT FA LE PK t2 t3 AT0 T1 WR hw' hm2 SZ B2 (or_two fm) AT2 T5 FA5 FI FL2 ?_
        by_cases hc5 : m5.cd = 0
        · refine .inr ⟨hc5, ?_⟩
          rw [if_neg (show ¬ (m5.cd ≠ 0) from fun z => z hc5)]
          by_cases hc : (fillC 4 (fm ||| 2) data at2).1 = 0
          · rw [if_neg (show ¬ ((fillC 4 (fm ||| 2) data at2).1 ≠ 0) from fun z => z hc)]; exact .inr ⟨hc, rfl, rfl, rfl⟩
          · rw [if_pos (show (fillC 4 (fm ||| 2) data at2).1 ≠ 0 from hc)]; exact .inl ⟨hc, rfl, rfl, rfl⟩
        · rw [if_pos (show m5.cd ≠ 0 from hc5)]; exact .inl ⟨hc5, rfl, rfl, rfl⟩
end Go.Proofs.Ytdoheningeafhaa
