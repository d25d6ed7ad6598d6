/- Layer 13 (frame): frame.size; what reading a frame comes to, joined. | Layer 13 (frame): frame.Parse, joined. -/
import Derived.Test.YtmnmonmbdgedbaaFr4

namespace Go.Proofs.Ytmnmonmbdgedbaa
open Go.RowKit
set_option linter.unusedVariables false
set_option linter.unusedSimpArgs false

theorem num7_fold : ∀ (l : List UInt8) (a : Nat), l.foldl (fun n c => n * 128 + c.toNat) a ≤ (a + 2) * 256 ^ l.length - 2
  | [], a => by simp
  | c :: t, a => by
    have hc := UInt8.toNat_lt c
    have h := num7_fold t (a * 128 + c.toNat)
    rw [List.foldl_cons, List.length_cons, Nat.pow_succ]
    have hp : 0 < 256 ^ t.length := Nat.pow_pos (by decide)
    have h2 : (a * 128 + c.toNat + 2) * 256 ^ t.length ≤ (a + 2) * 256 * 256 ^ t.length := Nat.mul_le_mul_right _ (by omega)
    have h3 : (a + 2) * (256 ^ t.length * 256) = (a + 2) * 256 * 256 ^ t.length := by rw [Nat.mul_comm (256 ^ t.length), Nat.mul_assoc]
    omega
theorem num7_top (l : List UInt8) (h : l.length ≤ 4) : num7 l ≤ 8589934592 := by
  have h1 := num7_fold l 0
  have h2 : (256 : Nat) ^ l.length ≤ 256 ^ 4 := Nat.pow_le_pow_right (by decide) h
  unfold num7
  omega
theorem safe_nonneg (m : Rd) : 0 ≤ m.safe.2 := by
  unfold Rd.safe
  split
  · exact Int.le_refl _
  · exact Int.natCast_nonneg _
theorem safe_top (m : Rd) : m.safe.2.toNat ≤ 8589934592 := by
  unfold Rd.safe
  split
  · exact Nat.zero_le _
  · exact num7_top _ (take_len m 4)
/-- the size in a frame's head -/
def sizeM (v : Int) (m : Rd) : Rd × Nat :=
  if v = 2 then ((m.take ((3 : Nat) : Int)).1, numL (m.take ((3 : Nat) : Int)).2) else if v = 3 then ((m.take ((4 : Nat) : Int)).1, numL (m.take ((4 : Nat) : Int)).2) else (m.safe.1, m.safe.2.toNat)
theorem numL_le (l : List UInt8) (h : l.length ≤ 4) : numL l ≤ 8589934592 := by
  have h1 := numL_bound l
  have h2 : (256 : Nat) ^ l.length ≤ 256 ^ 4 := Nat.pow_le_pow_right (by decide) h
  omega
set_option maxRecDepth 100000 in
theorem size_core (v : Int) (b n : Nat) (m m' : Rd) (w : World) (h : RdAt w b m) (hn : n ≤ 8589934592)
    (C2 : Hid (v = 2 → ∀ w, RdAt w b m → Calls Try.prog 93 #[.pointer (some ⟨b, 0, none⟩), .int .i64 3] w fun e w' => e = .returned (.int .u64 n) ∧ RdAt w' b m' ∧ Only b w w'))
    (C3 : Hid (v = 3 → ∀ w, RdAt w b m → Calls Try.prog 93 #[.pointer (some ⟨b, 0, none⟩), .int .i64 4] w fun e w' => e = .returned (.int .u64 n) ∧ RdAt w' b m' ∧ Only b w w'))
    (C4 : Hid (v ≠ 2 → v ≠ 3 → ∀ w, RdAt w b m → Calls Try.prog 55 #[.pointer (some ⟨b, 0, none⟩)] w fun e w' => e = .returned (.int .i64 n) ∧ RdAt w' b m' ∧ Only b w w')) :
    Calls Try.prog 125 #[.int .i64 v, .pointer (some ⟨b, 0, none⟩)] w fun e w' => e = .returned (.int .i64 n) ∧ RdAt w' b m' ∧ Only b w w' := by
  have R := Lib.hid h
  clear h
  have hn' : (n : Int) ≤ 8589934592 := by omega
  by_cases h2 : v = 2
  · have C := Lib.hid (C2.out h2)
    subst h2
    clear C2 C3 C4
    go_enter Try.func125, Try.ntmps125
    go_wp2_with (go_at_call 93; (with_reducible refine (C.out _ R.out).mono ?_); rintro e w1 ⟨rfl, r1, o1⟩; have R1 := Lib.hid r1; have O1 := Lib.hid o1; clear r1 o1)
    go_ret
    exact ⟨rfl, R1.out, O1.out⟩
  · by_cases h3 : v = 3
    · have C := Lib.hid (C3.out h3)
      subst h3
      clear C2 C3 C4 h2
      go_enter Try.func125, Try.ntmps125
      go_wp2_with (go_at_call 93; (with_reducible refine (C.out _ R.out).mono ?_); rintro e w1 ⟨rfl, r1, o1⟩; have R1 := Lib.hid r1; have O1 := Lib.hid o1; clear r1 o1)
      go_ret
      exact ⟨rfl, R1.out, O1.out⟩
    · have C := Lib.hid (C4.out h2 h3)
      have t2 := no_case h2
      have t3 := no_case h3
      clear C2 C3 C4 h2 h3
      go_enter Try.func125, Try.ntmps125
      go_wp2_with (go_at_call 55; (with_reducible refine (C.out _ R.out).mono ?_); rintro e w1 ⟨rfl, r1, o1⟩; have R1 := Lib.hid r1; have O1 := Lib.hid o1; clear r1 o1)
      go_ret
      exact ⟨rfl, R1.out, O1.out⟩
theorem fsize_any (v : Int) (b : Nat) (m : Rd) (w : World) (h : RdAt w b m) (hm : m.Ok) : Calls Try.prog 125 #[.int .i64 v, .pointer (some ⟨b, 0, none⟩)] w fun e w' => e = .returned (.int .i64 ((sizeM v m).2 : Nat)) ∧ RdAt w' b (sizeM v m).1 ∧ Only b w w' := by
  refine size_core v b _ m _ w h ?_ (Lib.hid ?_) (Lib.hid ?_) (Lib.hid ?_)
  · unfold sizeM
    split
    · exact numL_le _ (Nat.le_trans (take_len _ _) (by decide))
    · split
      · exact numL_le _ (Nat.le_trans (take_len _ _) (by decide))
      · exact safe_top m
  · intro hv w h
    unfold sizeM
    rw [if_pos hv]
    exact inbig_any b m 3 3 w h hm (Lib.hid (by decide))
  · intro hv w h
    unfold sizeM
    rw [if_neg (by omega), if_pos hv]
    exact inbig_any b m 4 4 w h hm (Lib.hid (by decide))
  · intro h2 h3 w h
    unfold sizeM
    rw [if_neg h2, if_neg h3]
    have := insafe_any b m w h hm
    rw [← Int.toNat_of_nonneg (safe_nonneg m)] at this
    exact this

/-- a frame's head and data read: the reader behind it -/
structure Fp where
  m2 : Rd
  m5 : Rd
  id : List UInt8
  st : UInt8
  fm : UInt8
  at2 : Int
  data : List UInt8
def frMain (v : Int) (sp : Bool) (m : Rd) : Fp :=
  let a1 := m.take ((letters v : Nat) : Int)
  let m2 := if wrongN a1.2 < a1.2.length then a1.1.fail 1 (m.bs + m.nx + (wrongN a1.2 : Nat)) else a1.1
  let a3 := sizeM v m2
  let a4 := if v = 2 then (a3.1, []) else a3.1.take ((2 : Nat) : Int)
  let fm := UInt8.ofNat (numL a4.2 % 256)
  let a5 := a4.1.take ((a3.2 : Nat) : Int)
  ⟨m2, a5.1, a1.2, UInt8.ofNat (numL a4.2 / 256), if v = 4 ∧ sp = true then fm ||| 2 else fm, a4.1.bs + a4.1.nx, a5.2⟩
def frEnd (v : Int) (m : Rd) (f : Fp) : Rd × Fr × Bool :=
  if f.m5.cd ≠ 0 then (f.m5, zeroF, false) else
    if (fillC v f.fm f.data f.at2).1 ≠ 0 then (f.m5.fail (fillC v f.fm f.data f.at2).1 (fillC v f.fm f.data f.at2).2, zeroF, false)
    else (f.m5, ⟨f.id, f.st, f.fm, (fillB v f.fm f.data f.at2).1, (fillB v f.fm f.data f.at2).2, m.bs + m.nx⟩, true)
def frParse (v : Int) (sp : Bool) (m : Rd) : Rd × Fr × Bool :=
  if letters v = 0 ∨ m.cd ≠ 0 ∨ m.left = 0 ∨ m.peek 1 = [0] then (m, zeroF, false) else frEnd v m (frMain v sp m)

theorem take_dead {m : Rd} (h : m.cd ≠ 0) (k : Int) : m.take k = (m, []) := by
  unfold Rd.take
  rw [if_neg h]
theorem safe_dead {m : Rd} (h : m.cd ≠ 0) : m.safe = (m, 0) := by
  unfold Rd.safe
  rw [take_dead h]
  rfl
theorem sizeM_dead (v : Int) {m : Rd} (h : m.cd ≠ 0) : sizeM v m = (m, 0) := by
  unfold sizeM
  rw [take_dead h, take_dead h, safe_dead h]
  split
  · rfl
  · split <;> rfl
theorem sizeM_ok (v : Int) {m : Rd} (h : m.Ok) : (sizeM v m).1.Ok := by
  unfold sizeM
  split
  · exact take_ok _ h
  · split
    · exact take_ok _ h
    · exact fr_safe_ok h
theorem sizeM_bs (v : Int) (m : Rd) : (sizeM v m).1.bs = m.bs := by
  unfold sizeM
  split
  · exact take_bs _ _
  · split
    · exact take_bs _ _
    · unfold Rd.safe
      split
      · rw [Rd.fail_bs, take_bs]
      · rw [take_bs]
theorem or_two (c : UInt8) : bits .or .u8 (c.toNat : Int) 2 = ((c ||| 2).toNat : Int) := by
  have hc := UInt8.toNat_lt c
  have e : (BitVec.ofInt IntKind.u8.bits (c.toNat : Int) ||| BitVec.ofInt IntKind.u8.bits 2).toNat = (c ||| 2).toNat := by
    rw [BitVec.toNat_or, UInt8.toNat_or]
    show (BitVec.ofInt 8 (c.toNat : Int)).toNat ||| (BitVec.ofInt 8 ((2 : Nat) : Int)).toNat = _
    rw [BitVec.ofInt_natCast, BitVec.ofInt_natCast, BitVec.toNat_ofNat, BitVec.toNat_ofNat, Nat.mod_eq_of_lt hc]
    rfl
  simp only [bits, e]
  have := UInt8.toNat_lt (c ||| 2)
  generalize (c ||| 2).toNat = z at *
  simp only [IntKind.wrap, IntKind.bits, IntKind.signed]
  simp
  omega
end Go.Proofs.Ytmnmonmbdgedbaa

namespace Go.Proofs.Ytmnmonmbdgedbaa
open Go.RowKit
set_option linter.unusedVariables false
set_option linter.unusedSimpArgs false

theorem num_pair (l : List UInt8) (h : l.length ≤ 2) : numL l = (UInt8.ofNat (numL l / 256)).toNat * 256 + (UInt8.ofNat (numL l % 256)).toNat := by
  have h1 := numL_bound l
  have h2 : (256 : Nat) ^ l.length ≤ 256 ^ 2 := Nat.pow_le_pow_right (by decide) h
  rw [UInt8.toNat_ofNat', UInt8.toNat_ofNat']
  omega
def FrSays (b : Nat) (r : Rd × Fr × Bool) (w : World) : Ending → World → Prop := FParse b r.1 r.2.1 r.2.2 w
theorem fparse_any (v : Int) (sp : Bool) (b : Nat) (m : Rd) (w : World) (h : RdAt w b m) (hm : m.Ok) (hb : m.bs ≤ 2000000000000) :
    Calls Try.prog 89 #[.int .i64 v, .pointer (some ⟨b, 0, none⟩), .bool sp] w (FrSays b (frParse v sp m) w) := by
  unfold FrSays frParse
  have LT := Lib.hid (fun w => letters_any v w)
  have FA := Lib.hid (fun w h => fault_any b m w h)
  have LE := Lib.hid (fun w h => left_any b m w h hm)
  have PK := Lib.hid (fun w h => peek_any b m 1 w h hm)
  by_cases h0 : letters v = 0
  · rw [if_pos (.inl h0)]
    rw [h0] at LT
    exact fparse_no0 v sp b 0 m _ _ _ _ w h LT FA LE PK
  have t0 : ((letters v : Int) == 0) = false := by simpa using h0
  by_cases h1 : m.cd = 0
  rotate_left
  · rw [if_pos (.inr (.inl h1))]
    exact fparse_no1 v sp b _ m _ _ _ _ w h LT FA LE PK t0 (by simpa using h1)
  have t1 : (m.cd != 0) = false := by simpa using h1
  by_cases h2 : m.left = 0
  · rw [if_pos (.inr (.inr (.inl h2)))]
    exact fparse_no2 v sp b _ m _ _ _ _ w h LT FA LE PK t0 t1 (by simpa using h2)
  have t2 : (m.left == 0) = false := by simpa using h2
  by_cases h3 : m.peek 1 = [0]
  · rw [if_pos (.inr (.inr (.inr h3)))]
    exact fparse_no3 v sp b _ m _ _ _ _ w h LT FA LE PK t0 t1 t2 (by simpa using h3)
  have t3 : (m.peek 1 == [0]) = false := by simpa using h3
  rw [if_neg (by simp [h0, h1, h2, h3])]
  rw [h1] at FA
  clear h2 h3 t0 t1
  have hv : v = 2 ∨ v = 3 ∨ v = 4 := by
    unfold letters at h0
    by_cases a : v = 2
    · exact .inl a
    · by_cases b : v = 3
      · exact .inr (.inl b)
      · by_cases c : v = 4
        · exact .inr (.inr c)
        · rw [if_neg a, if_neg b, if_neg c] at h0
          exact absurd rfl h0
  have hn4 : letters v ≤ 4 := by unfold letters; split; decide; split; decide; split; decide; decide
  unfold frMain
  have T1 := Lib.hid (fun w h => take_any b m ((letters v : Nat) : Int) w h hm)
  have AT0 := Lib.hid (fun w h => at_any b m w h hm)
  have ok1 := take_ok ((letters v : Nat) : Int) hm
  have l1 := take_len m ((letters v : Nat) : Int)
  have b1 := take_bs m ((letters v : Nat) : Int)
  have c1 : (m.take ((letters v : Nat) : Int)).1.cd = 0 ∨ (m.take ((letters v : Nat) : Int)).2 = [] := by
    unfold Rd.take
    rw [if_pos h1]
    by_cases hh : ((letters v : Nat) : Int) < 0 ∨ (m.t.length : Int) - m.nx < ((letters v : Nat) : Int)
    · exact .inr (by rw [if_pos hh])
    · exact .inl (by rw [if_neg hh]; exact h1)
  rw [Int.toNat_natCast] at l1
  simp only
  generalize m.take ((letters v : Nat) : Int) = a1 at *
  obtain ⟨m1, id⟩ := a1
  simp only at T1 ok1 l1 b1 c1 ⊢
  have hid : id.length ≤ 4 := Nat.le_trans l1 hn4
  have WR := Lib.hid (fun w => wrong_any id w (by omega))
  have FL := Lib.hid (fun w h => fail_any b m1 1 (m.bs + m.nx + (wrongN id : Nat)) w h)
  have hnx := hm.1
  have hnt := hm.2.1
  have hbs := hm.2.2.1
  obtain ⟨at0, hat0⟩ : ∃ x, x = m.bs + m.nx := ⟨_, rfl⟩
  have hat : 0 ≤ at0 ∧ at0 ≤ 4000000000000 := by omega
  rw [← hat0] at AT0 FL
  unfold frEnd
  simp only
  rw [← hat0]
  clear hat0 l1
  generalize wrongN id = wn at *
  generalize hm2 : (if wn < id.length then m1.fail 1 (at0 + (wn : Nat)) else m1) = m2 at *
  have ok2 : m2.Ok := by
    rw [← hm2]; split
    · exact ok1.fail _ _
    · exact ok1
  have b2 : m2.bs = m.bs := by
    rw [← hm2, ← b1]; split
    · exact Rd.fail_bs _ _ _
    · rfl
  have SZ := Lib.hid (fun w h => fsize_any v b m2 w h ok2)
  have ok3 := sizeM_ok v ok2
  have b3 := (sizeM_bs v m2).trans b2
  have dead3 : m2.cd ≠ 0 → (sizeM v m2).1.cd ≠ 0 := fun hd => by rw [sizeM_dead v hd]; exact hd
  generalize sizeM v m2 = a3 at *
  obtain ⟨m3, many⟩ := a3
  simp only at SZ ok3 b3 dead3 ⊢
  rcases hv with rfl | rfl | rfl
  · rw [if_pos rfl]
    simp only
    generalize hz1 : UInt8.ofNat (numL [] / 256) = st at *
    generalize hz2 : UInt8.ofNat (numL [] % 256) = fm at *
    have E5 : st = 0 := hz1.symm.trans rfl
    have E6 : fm = 0 := hz2.symm.trans rfl
    clear hz1 hz2
    have AT2 := Lib.hid (fun w h => at_any b m3 w h ok3)
    have T5 := Lib.hid (fun w h => take_any b m3 ((many : Nat) : Int) w h ok3)
    have hd5 := take_le_text m3 ((many : Nat) : Int)
    have hle := ok3.2.1
    have hnx4 := ok3.1
    have hat2 : m3.bs + m3.nx ≤ 3000000000000 := by omega
    have dead5 : m3.cd ≠ 0 → (m3.take ((many : Nat) : Int)).1.cd ≠ 0 := fun hd => by rw [take_dead hd]; exact hd
    generalize m3.take ((many : Nat) : Int) = a5 at *
    obtain ⟨m5, data⟩ := a5
    simp only at T5 hd5 dead5 ⊢
    generalize m3.bs + m3.nx = at2 at *
    rw [if_neg (show ¬ ((2 : Int) = 4 ∧ sp = true) from fun x => absurd x.1 (by decide))]
    have FA5 := Lib.hid (fun w h => fault_any b m5 w h)
    by_cases hw : wn < id.length
    · have hw' : (wn : Int) < id.length := by omega
      rw [if_pos hw] at hm2
      have hc1 : m1.cd = 0 := c1.resolve_right (by intro e; rw [e] at hw; simp at hw)
      have hc2 : m2.cd ≠ 0 := by rw [← hm2, Rd.fail_yes m1 1 _ hc1 (by decide)]; show (1 : Int) ≠ 0; decide
      have hc5 : m5.cd ≠ 0 := dead5 (dead3 hc2)
      rw [if_pos hc5]
      rw [hm2] at FL
      exact fparse_210 b m m1 m2 m3 m3 m5 m5 m5 _ _ at0 at2 _ _ 0 0 wn many _ id data [] st fm fm 0 _ _ sp w h LT FA LE PK t2 t3 AT0 T1 WR hw' hat hid FL SZ rfl E5 E6 rfl AT2 T5 FA5 hc5 rfl rfl rfl
    · have hw' : ¬ (wn : Int) < id.length := by omega
      rw [if_neg hw] at hm2
      have FI := Lib.hid (fun pb w hf => fill_any 2 pb id st fm data at0 at2 w hf (Nat.le_trans hd5 hle) hat2)
      have FL2 := Lib.hid (fun w h => fail_any b m5 (fillC 2 fm data at2).1 (fillC 2 fm data at2).2 w h)
      refine fparse_200 b m m1 m2 m3 m3 m5 _ _ _ _ at0 at2 _ _ _ _ wn many _ id data _ st fm fm _ _ _ sp w h LT FA LE PK t2 t3 AT0 T1 WR hw' hm2 SZ rfl E5 E6 rfl AT2 T5 FA5 FI FL2 ?_
      by_cases hc5 : m5.cd = 0
      · refine .inr ⟨hc5, ?_⟩
        rw [if_neg (show ¬ (m5.cd ≠ 0) from fun z => z hc5)]
        by_cases hc : (fillC 2 fm data at2).1 = 0
        · rw [if_neg (show ¬ ((fillC 2 fm data at2).1 ≠ 0) from fun z => z hc)]; exact .inr ⟨hc, rfl, rfl, rfl⟩
        · rw [if_pos (show (fillC 2 fm data at2).1 ≠ 0 from hc)]; exact .inl ⟨hc, rfl, rfl, rfl⟩
      · rw [if_pos (show m5.cd ≠ 0 from hc5)]; exact .inl ⟨hc5, rfl, rfl, rfl⟩
  · rw [if_neg (show ¬ (3 : Int) = 2 by decide)]
    have B2 := Lib.hid (fun w h => inbig_any b m3 2 2 w h ok3 (Lib.hid (by decide)))
    have ok4 := take_ok ((2 : Nat) : Int) ok3
    have l4 := take_len m3 ((2 : Nat) : Int)
    have b4 := (take_bs m3 ((2 : Nat) : Int)).trans b3
    have dead4 : m3.cd ≠ 0 → (m3.take ((2 : Nat) : Int)).1.cd ≠ 0 := fun hd => by rw [take_dead hd]; exact hd
    generalize m3.take ((2 : Nat) : Int) = a4 at *
    obtain ⟨m4, fl⟩ := a4
    simp only at B2 ok4 l4 b4 dead4 ⊢
    have hp := num_pair fl (by simpa using l4)
    rw [hp] at B2
    generalize UInt8.ofNat (numL fl / 256) = st at *
    generalize UInt8.ofNat (numL fl % 256) = fm at *
    have AT2 := Lib.hid (fun w h => at_any b m4 w h ok4)
    have T5 := Lib.hid (fun w h => take_any b m4 ((many : Nat) : Int) w h ok4)
    have hd5 := take_le_text m4 ((many : Nat) : Int)
    have hle := ok4.2.1
    have hnx4 := ok4.1
    have hat2 : m4.bs + m4.nx ≤ 3000000000000 := by omega
    have dead5 : m4.cd ≠ 0 → (m4.take ((many : Nat) : Int)).1.cd ≠ 0 := fun hd => by rw [take_dead hd]; exact hd
    generalize m4.take ((many : Nat) : Int) = a5 at *
    obtain ⟨m5, data⟩ := a5
    simp only at T5 hd5 dead5 ⊢
    generalize m4.bs + m4.nx = at2 at *
    rw [if_neg (show ¬ ((3 : Int) = 4 ∧ sp = true) from fun x => absurd x.1 (by decide))]
    have FA5 := Lib.hid (fun w h => fault_any b m5 w h)
    by_cases hw : wn < id.length
    · have hw' : (wn : Int) < id.length := by omega
      rw [if_pos hw] at hm2
      have hc1 : m1.cd = 0 := c1.resolve_right (by intro e; rw [e] at hw; simp at hw)
      have hc2 : m2.cd ≠ 0 := by rw [← hm2, Rd.fail_yes m1 1 _ hc1 (by decide)]; show (1 : Int) ≠ 0; decide
      have hc5 : m5.cd ≠ 0 := dead5 (dead4 (dead3 hc2))
      rw [if_pos hc5]
      rw [hm2] at FL
      exact fparse_310 b m m1 m2 m3 m4 m5 m5 m5 _ _ at0 at2 _ _ 0 0 wn many _ id data [] st fm fm 0 _ _ sp w h LT FA LE PK t2 t3 AT0 T1 WR hw' hat hid FL SZ B2 rfl AT2 T5 FA5 hc5 rfl rfl rfl
    · have hw' : ¬ (wn : Int) < id.length := by omega
      rw [if_neg hw] at hm2
      have FI := Lib.hid (fun pb w hf => fill_any 3 pb id st fm data at0 at2 w hf (Nat.le_trans hd5 hle) hat2)
      have FL2 := Lib.hid (fun w h => fail_any b m5 (fillC 3 fm data at2).1 (fillC 3 fm data at2).2 w h)
      refine fparse_300 b m m1 m2 m3 m4 m5 _ _ _ _ at0 at2 _ _ _ _ wn many _ id data _ st fm fm _ _ _ sp w h LT FA LE PK t2 t3 AT0 T1 WR hw' hm2 SZ B2 rfl AT2 T5 FA5 FI FL2 ?_
      by_cases hc5 : m5.cd = 0
      · refine .inr ⟨hc5, ?_⟩
        rw [if_neg (show ¬ (m5.cd ≠ 0) from fun z => z hc5)]
        by_cases hc : (fillC 3 fm data at2).1 = 0
        · rw [if_neg (show ¬ ((fillC 3 fm data at2).1 ≠ 0) from fun z => z hc)]; exact .inr ⟨hc, rfl, rfl, rfl⟩
        · rw [if_pos (show (fillC 3 fm data at2).1 ≠ 0 from hc)]; exact .inl ⟨hc, rfl, rfl, rfl⟩
      · rw [if_pos (show m5.cd ≠ 0 from hc5)]; exact .inl ⟨hc5, rfl, rfl, rfl⟩
  · rw [if_neg (show ¬ (4 : Int) = 2 by decide)]
    have B2 := Lib.hid (fun w h => inbig_any b m3 2 2 w h ok3 (Lib.hid (by decide)))
    have ok4 := take_ok ((2 : Nat) : Int) ok3
    have l4 := take_len m3 ((2 : Nat) : Int)
    have b4 := (take_bs m3 ((2 : Nat) : Int)).trans b3
    have dead4 : m3.cd ≠ 0 → (m3.take ((2 : Nat) : Int)).1.cd ≠ 0 := fun hd => by rw [take_dead hd]; exact hd
    generalize m3.take ((2 : Nat) : Int) = a4 at *
    obtain ⟨m4, fl⟩ := a4
    simp only at B2 ok4 l4 b4 dead4 ⊢
    have hp := num_pair fl (by simpa using l4)
    rw [hp] at B2
    generalize UInt8.ofNat (numL fl / 256) = st at *
    generalize UInt8.ofNat (numL fl % 256) = fm at *
    have AT2 := Lib.hid (fun w h => at_any b m4 w h ok4)
    have T5 := Lib.hid (fun w h => take_any b m4 ((many : Nat) : Int) w h ok4)
    have hd5 := take_le_text m4 ((many : Nat) : Int)
    have hle := ok4.2.1
    have hnx4 := ok4.1
    have hat2 : m4.bs + m4.nx ≤ 3000000000000 := by omega
    have dead5 : m4.cd ≠ 0 → (m4.take ((many : Nat) : Int)).1.cd ≠ 0 := fun hd => by rw [take_dead hd]; exact hd
    generalize m4.take ((many : Nat) : Int) = a5 at *
    obtain ⟨m5, data⟩ := a5
    simp only at T5 hd5 dead5 ⊢
    generalize m4.bs + m4.nx = at2 at *
    rcases sp with _ | _
    · simp only [true_and, Bool.false_eq_true, if_false]
      have FA5 := Lib.hid (fun w h => fault_any b m5 w h)
      by_cases hw : wn < id.length
      · have hw' : (wn : Int) < id.length := by omega
        rw [if_pos hw] at hm2
        have hc1 : m1.cd = 0 := c1.resolve_right (by intro e; rw [e] at hw; simp at hw)
        have hc2 : m2.cd ≠ 0 := by rw [← hm2, Rd.fail_yes m1 1 _ hc1 (by decide)]; show (1 : Int) ≠ 0; decide
        have hc5 : m5.cd ≠ 0 := dead5 (dead4 (dead3 hc2))
        rw [if_pos hc5]
        rw [hm2] at FL
        exact fparse_410 b m m1 m2 m3 m4 m5 m5 m5 _ _ at0 at2 _ _ 0 0 wn many _ id data [] st fm fm 0 _ _ w h LT FA LE PK t2 t3 AT0 T1 WR hw' hat hid FL SZ B2 rfl AT2 T5 FA5 hc5 rfl rfl rfl
      · have hw' : ¬ (wn : Int) < id.length := by omega
        rw [if_neg hw] at hm2
        have FI := Lib.hid (fun pb w hf => fill_any 4 pb id st fm data at0 at2 w hf (Nat.le_trans hd5 hle) hat2)
        have FL2 := Lib.hid (fun w h => fail_any b m5 (fillC 4 fm data at2).1 (fillC 4 fm data at2).2 w h)
        refine fparse_400 b m m1 m2 m3 m4 m5 _ _ _ _ at0 at2 _ _ _ _ wn many _ id data _ st fm fm _ _ _ w h LT FA LE PK t2 t3 AT0 T1 WR hw' hm2 SZ B2 rfl AT2 T5 FA5 FI FL2 ?_
        by_cases hc5 : m5.cd = 0
        · refine .inr ⟨hc5, ?_⟩
          rw [if_neg (show ¬ (m5.cd ≠ 0) from fun z => z hc5)]
          by_cases hc : (fillC 4 fm data at2).1 = 0
          · rw [if_neg (show ¬ ((fillC 4 fm data at2).1 ≠ 0) from fun z => z hc)]; exact .inr ⟨hc, rfl, rfl, rfl⟩
          · rw [if_pos (show (fillC 4 fm data at2).1 ≠ 0 from hc)]; exact .inl ⟨hc, rfl, rfl, rfl⟩
        · rw [if_pos (show m5.cd ≠ 0 from hc5)]; exact .inl ⟨hc5, rfl, rfl, rfl⟩
    · simp only [true_and, if_true]
      have FA5 := Lib.hid (fun w h => fault_any b m5 w h)
      by_cases hw : wn < id.length
      · have hw' : (wn : Int) < id.length := by omega
        rw [if_pos hw] at hm2
        have hc1 : m1.cd = 0 := c1.resolve_right (by intro e; rw [e] at hw; simp at hw)
        have hc2 : m2.cd ≠ 0 := by rw [← hm2, Rd.fail_yes m1 1 _ hc1 (by decide)]; show (1 : Int) ≠ 0; decide
        have hc5 : m5.cd ≠ 0 := dead5 (dead4 (dead3 hc2))
        rw [if_pos hc5]
        rw [hm2] at FL
        exact fparse_411 b m m1 m2 m3 m4 m5 m5 m5 _ _ at0 at2 _ _ 0 0 wn many _ id data [] st fm (fm ||| 2) 0 _ _ w h LT FA LE PK t2 t3 AT0 T1 WR hw' hat hid FL SZ B2 (or_two fm) AT2 T5 FA5 hc5 rfl rfl rfl
      · have hw' : ¬ (wn : Int) < id.length := by omega
        rw [if_neg hw] at hm2
        have FI := Lib.hid (fun pb w hf => fill_any 4 pb id st (fm ||| 2) data at0 at2 w hf (Nat.le_trans hd5 hle) hat2)
        have FL2 := Lib.hid (fun w h => fail_any b m5 (fillC 4 (fm ||| 2) data at2).1 (fillC 4 (fm ||| 2) data at2).2 w h)
        refine fparse_401 b m m1 m2 m3 m4 m5 _ _ _ _ at0 at2 _ _ _ _ wn many _ id data _ st fm (fm ||| 2) _ _ _ w h LT FA LE PK t2 t3 AT0 T1 WR hw' hm2 SZ B2 (or_two fm) AT2 T5 FA5 FI FL2 ?_
        by_cases hc5 : m5.cd = 0
        · refine .inr ⟨hc5, ?_⟩
          rw [if_neg (show ¬ (m5.cd ≠ 0) from fun z => z hc5)]
          by_cases hc : (fillC 4 (fm ||| 2) data at2).1 = 0
          · rw [if_neg (show ¬ ((fillC 4 (fm ||| 2) data at2).1 ≠ 0) from fun z => z hc)]; exact .inr ⟨hc, rfl, rfl, rfl⟩
          · rw [if_pos (show (fillC 4 (fm ||| 2) data at2).1 ≠ 0 from hc)]; exact .inl ⟨hc, rfl, rfl, rfl⟩
        · rw [if_pos (show m5.cd ≠ 0 from hc5)]; exact .inl ⟨hc5, rfl, rfl, rfl⟩
end Go.Proofs.Ytmnmonmbdgedbaa
