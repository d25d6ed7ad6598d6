/- Layer 15 (tag): Parse joined. | Layer 15 (tag): what is printed is read as it was (plain). | Layer 15 (tag), plain: a tag that is read may be printed, and isn't longer than it was, if nothing of it is spread. -/
import Derived.Test.YtmnmonmbdgedbaaTg9

namespace Go.Proofs.Ytmnmonmbdgedbaa
open Go.RowKit
set_option linter.unusedVariables false
set_option linter.unusedSimpArgs false

/-- the tag with which a file begins, what stands behind it, the fault -/
def prT (l : List UInt8) : Tg × List UInt8 × Int × Int :=
  if l.length < 3 ∨ l.take 3 ≠ [73, 68, 51] then (zeroT, l, 0, 0) else
  let a := hdM (Rd.new l 0)
  let b := a.1.safe.1.take a.1.safe.2
  if b.1.cd ≠ 0 then (zeroT, [], b.1.cd, b.1.pl) else
  let body := if wholeB a.2.v a.2.fl = true then sndDrop false b.2 else b.2
  let r := frsM a.2.v (tb a.2.fl 128) (skM a.2.v a.2.fl (Rd.new body 10))
  if r.1.cd ≠ 0 then (zeroT, [], r.1.cd, r.1.pl) else
  let m5 := if footB a.2.v a.2.fl = true then ((b.1.want [51, 68, 73]).1.want ((l.drop 3).take 7)).1 else b.1
  if m5.cd ≠ 0 then (zeroT, [], m5.cd, m5.pl) else (⟨a.2.v, a.2.rv, a.2.fl &&& 191, r.2⟩, m5.rest.2, 0, 0)
theorem fail4_cd {x1 x2 x3 x4 : Bool} {m : Rd} (h : (fail4 x1 x2 x3 x4 m).cd = 0) : x1 = false ∧ x2 = false ∧ x3 = false ∧ x4 = false ∧ fail4 x1 x2 x3 x4 m = m := by
  have key : ∀ (r : Rd) (c p : Int), c ≠ 0 → (r.fail c p).cd ≠ 0 := by
    intro r c p hc
    by_cases h0 : r.cd = 0
    · rw [Rd.fail_yes r c p h0 hc]; exact hc
    · rw [Rd.fail_no r c p (by simp [h0])]; exact h0
  have stay : ∀ (r : Rd) (c p : Int), r.cd ≠ 0 → (r.fail c p).cd ≠ 0 := by
    intro r c p h0
    rw [Rd.fail_no r c p (by simp [h0])]; exact h0
  have st : ∀ (x : Bool) (r : Rd) (c p : Int), r.cd ≠ 0 → (if x = true then r.fail c p else r).cd ≠ 0 := by
    intro x r c p h0
    split
    · exact stay _ _ _ h0
    · exact h0
  unfold fail4 at h ⊢
  simp only at h ⊢
  rcases x1 with _ | _
  · rcases x2 with _ | _
    · rcases x3 with _ | _
      · rcases x4 with _ | _
        · exact ⟨rfl, rfl, rfl, rfl, rfl⟩
        · exact absurd h (key _ _ _ (by decide))
      · exact absurd h (st _ _ _ _ (key _ _ _ (by decide)))
    · exact absurd h (st _ _ _ _ (st _ _ _ _ (key _ _ _ (by decide))))
  · exact absurd h (st _ _ _ _ (st _ _ _ _ (st _ _ _ _ (key _ _ _ (by decide)))))
/-- a head that is read without a fault -/
theorem hdM_sound {m : Rd} (hm : m.nx ≤ m.t.length) (h : (hdM m).1.cd = 0) : m.cd = 0 ∧ m.nx + 6 ≤ m.t.length ∧ (hdM m).1 = adv m 6 ∧ (m.t.drop m.nx).take 3 = [73, 68, 51] ∧
    (∃ c : UInt8, (hdM m).2.v = (c.toNat : Int) ∧ (m.t.drop (m.nx + 3)).take 3 = [c, (hdM m).2.rv, (hdM m).2.fl]) ∧ letters (hdM m).2.v ≠ 0 ∧ (hdM m).2.rv ≠ 255 ∧ anB (hdM m).2.fl (allowN (hdM m).2.v) = false ∧ ((hdM m).2.v = 2 → tb (hdM m).2.fl 64 = false) := by
  unfold hdM at h ⊢
  simp only at h ⊢
  split at h
  · rename_i hc; exact absurd h hc
  rename_i hc
  rw [if_neg hc]
  obtain ⟨f1, f2, f3, f4, f5⟩ := fail4_cd h
  rw [f5] at h ⊢
  simp only at h ⊢
  by_cases hw : (m.want [73, 68, 51]).1.cd = 0
  rotate_left
  · rw [take_dead hw] at h
    simp only at h
    rw [take_dead hw] at h
    simp only at h
    rw [take_dead hw] at h
    exact absurd h hw
  obtain ⟨a1, a2, a3, a4⟩ := want_ok_of hm hw
  rw [a3] at h f1 f2 f3 f4 ⊢
  have L : ([73, 68, 51] : List UInt8).length = 3 := rfl
  rw [L] at h a2 a4 f1 f2 f3 f4 ⊢
  have b1 : (adv m 3).nx ≤ (adv m 3).t.length := a2
  by_cases h1 : ((adv m 3).take ((1 : Nat) : Int)).1.cd = 0
  rotate_left
  · rw [take_dead h1] at h
    simp only at h
    rw [take_dead h1] at h
    exact absurd h h1
  obtain ⟨_, c1, d1⟩ := take_ok_of b1 h1
  rw [d1] at h f1 f2 f3 f4 ⊢
  simp only at h f1 f2 f3 f4 ⊢
  have c1' : m.nx + 3 + 1 ≤ m.t.length := c1
  by_cases h2 : ((adv (adv m 3) 1).take ((1 : Nat) : Int)).1.cd = 0
  rotate_left
  · rw [take_dead h2] at h
    exact absurd h h2
  obtain ⟨_, c2, d2⟩ := take_ok_of c1 h2
  have c2' : m.nx + 3 + 1 + 1 ≤ m.t.length := c2
  rw [d2] at h f2 f3 f4 ⊢
  simp only at h f2 f3 f4 ⊢
  obtain ⟨_, c3, d3⟩ := take_ok_of c2 h
  have c3' : m.nx + 3 + 1 + 1 + 1 ≤ m.t.length := c3
  rw [d3] at f3 f4 ⊢
  simp only at f3 f4 ⊢
  have e1 : List.take 1 (List.drop (adv m 3).nx (adv m 3).t) = [m.t[m.nx + 3]'(by omega)] := take_one m.t (m.nx + 3) (by omega)
  have e2 : List.take 1 (List.drop (adv (adv m 3) 1).nx (adv (adv m 3) 1).t) = [m.t[m.nx + 3 + 1]'(by omega)] := take_one m.t (m.nx + 3 + 1) (by omega)
  have e3 : List.take 1 (List.drop (adv (adv (adv m 3) 1) 1).nx (adv (adv (adv m 3) 1) 1).t) = [m.t[m.nx + 3 + 1 + 1]'(by omega)] := take_one m.t (m.nx + 3 + 1 + 1) (by omega)
  rw [e1, numL_one] at f1 f3 f4 ⊢
  rw [e2, numL_one] at f2 ⊢
  rw [e3, numL_one] at f3 f4 ⊢
  have u2 : UInt8.ofNat (m.t[m.nx + 3 + 1]'(by omega)).toNat = m.t[m.nx + 3 + 1]'(by omega) := by simp
  have u3 : UInt8.ofNat (m.t[m.nx + 3 + 1 + 1]'(by omega)).toNat = m.t[m.nx + 3 + 1 + 1]'(by omega) := by simp
  rw [u2] at f2 ⊢
  rw [u3] at f3 f4 ⊢
  refine ⟨a1, by omega, ?_, a4, ⟨m.t[m.nx + 3]'(by omega), rfl, ?_⟩, by simpa using f1, ?_, f3, ?_⟩
  · rw [adv_adv, adv_adv, adv_adv]
  · rw [drop_cons m.t (m.nx + 3) (by omega), drop_cons m.t (m.nx + 3 + 1) (by omega), drop_cons m.t (m.nx + 3 + 1 + 1) (by omega)]
    rfl
  · intro e
    rw [e] at f2
    exact absurd f2 (by decide)
  · intro e
    rw [Bool.and_eq_false_iff] at f4
    rcases f4 with f4 | f4
    · simp at f4; exact absurd e f4
    · exact f4
theorem skM_t (v : Int) (fl : UInt8) (m : Rd) : (skM v fl m).t = m.t ∧ (skM v fl m).bs = m.bs := by
  unfold skM
  split
  · exact ⟨rfl, rfl⟩
  · split
    · exact ⟨by rw [take_t, take_t], by rw [take_bs, take_bs]⟩
    · have h1 : m.safe.1.t = m.t := fr_safe_t m
      have h2 : m.safe.1.bs = m.bs := by
        unfold Rd.safe
        split
        · rw [Rd.fail_bs, take_bs]
        · rw [take_bs]
      rw [take_t, take_bs]
      split
      · rw [Rd.fail_t, Rd.fail_bs]; exact ⟨h1, h2⟩
      · exact ⟨h1, h2⟩
theorem tparse_any (l : List UInt8) (w : World) (hl : l.length ≤ 24000) :
    Calls Try.prog 17 #[.string ⟨l.toArray⟩] w (TParse (prT l).1 (prT l).2.1 (prT l).2.2.1 (prT l).2.2.2 w) := by
  unfold prT
  by_cases hn : l.length < 3 ∨ l.take 3 ≠ [73, 68, 51]
  · rw [if_pos hn]
    exact tparse_none l w hn
  rw [if_neg hn]
  simp only [not_or, ne_eq, Decidable.not_not] at hn
  obtain ⟨hn3, hid⟩ := hn
  have h3 : 3 ≤ l.length := by omega
  have ok0 := new_ok l 0 (by omega) (by decide)
  have RD := Lib.hid (fun w => read_any l w)
  have HD0 := fun b w h => thead_any b (Rd.new l 0) w h ok0
  have ok1 := hdM_ok ok0
  have snd1 := hdM_sound (m := Rd.new l 0) (Nat.zero_le _)
  have t1 : (hdM (Rd.new l 0)).1.cd = 0 → (hdM (Rd.new l 0)).1.nx = 6 ∧ (hdM (Rd.new l 0)).1.t = l := fun h => by rw [(snd1 h).2.2.1]; exact ⟨rfl, rfl⟩
  clear snd1
  have tl : (hdM (Rd.new l 0)).1.t.length ≤ 1000000000 := ok1.2.1
  simp only
  generalize hdM (Rd.new l 0) = a at *
  obtain ⟨m1, v, rv, fl⟩ := a
  unfold THead at HD0
  simp only at HD0 ok1 t1 tl ⊢
  have HD := Lib.hid HD0
  have SF := Lib.hid (fun b w h => insafe_any b m1 w h ok1)
  have ok2 := fr_safe_ok ok1
  have s10 : m1.safe.1.cd = 0 → 10 ≤ l.length := fun h => by
    obtain ⟨x1, x2, _⟩ := safe_ok_of ok1.1 h
    obtain ⟨y1, y2⟩ := t1 x1
    rw [y1, y2] at x2
    exact x2
  have hst : m1.safe.1.t.length ≤ l.length ∨ m1.safe.1.cd ≠ 0 := by
    by_cases h : m1.safe.1.cd = 0
    · left
      obtain ⟨x1, x2, x3⟩ := safe_ok_of ok1.1 h
      rw [x3]
      show m1.t.length ≤ l.length
      rw [(t1 x1).2]
      exact Nat.le_refl _
    · exact .inr h
  generalize m1.safe.2 = n at *
  generalize m1.safe.1 = m2 at *
  have TK := Lib.hid (fun b w h => take_any b m2 n w h ok2)
  have ok3 := take_ok n ok2
  have hb0 : (m2.take n).2.length ≤ 24000 := by
    rcases hst with h | h
    · exact Nat.le_trans (take_le_text m2 n) (by omega)
    · rw [take_dead h]; exact Nat.zero_le _
  have h10 : (m2.take n).1.cd = 0 → 10 ≤ l.length := fun h => by
    by_cases h2 : m2.cd = 0
    · exact s10 h2
    · rw [take_dead h2] at h; exact absurd h h2
  clear s10 hst t1 tl
  generalize m2.take n = b at *
  obtain ⟨m3, body0⟩ := b
  simp only at TK ok3 hb0 h10 ⊢
  have FA := Lib.hid (fun b w h => fault_any b m3 w h)
  by_cases hc1 : m3.cd = 0
  rotate_left
  · rw [if_pos (by simpa using hc1)]
    exact tparse_bad1 l v rv fl n m3.cd m3.pl 0 0 0 0 (Rd.new l 0) m1 m2 m3 m3 m3 m3 m3 m3 m3 body0 body0 [] true true [] w h3 hid RD HD SF TK FA hc1
  rw [if_neg (by simpa using hc1)]
  have WH := Lib.hid (fun w => whole_any v rv fl w)
  have DR := Lib.hid (fun w => drop_any body0 w (by omega))
  have hdl := sndDrop_len body0 false
  have FT := Lib.hid (fun w => foot_any v rv fl w)
  have W1 := Lib.hid (fun b w h => want_any b m3 [51, 68, 73] w h ok3 (by decide))
  have ok4 := tg_want_ok [51, 68, 73] ok3
  generalize (m3.want [51, 68, 73]).2 = k1 at *
  generalize (m3.want [51, 68, 73]).1 = m4 at *
  have W2 := Lib.hid (fun b w h => want_any b m4 ((l.drop 3).take 7) w h ok4 (by rw [List.length_take]; omega))
  have ok5 := tg_want_ok ((l.drop 3).take 7) ok4
  generalize (m4.want ((l.drop 3).take 7)).2 = k2 at *
  generalize (m4.want ((l.drop 3).take 7)).1 = m5 at *
  have FB5 := Lib.hid (fun b w h => fault_any b m5 w h)
  have RS5 := Lib.hid (fun b w h => rest_any b m5 w h ok5)
  have FB3 := Lib.hid (fun b w h => fault_any b m3 w h)
  have RS3 := Lib.hid (fun b w h => rest_any b m3 w h ok3)
  have e64 : bits .andNot .u8 (fl.toNat : Int) 64 = (((fl &&& 191 : UInt8).toNat : Nat) : Int) := by
    have h := an_bits fl 64 (by decide)
    rw [show ((64 : Nat) : Int) = 64 from rfl] at h
    rw [h, UInt8.toNat_and]
    rfl
  have inner : ∀ body : List UInt8, body.length ≤ 24000 →
      (∀ w, Calls Try.prog 58 #[.string ⟨body.toArray⟩, .int .i64 10] w fun e w' => e = .returned (.pointer (some ⟨w.heap.size, 0, none⟩)) ∧ RdAt w' w.heap.size (Rd.new body 10) ∧ Below w.heap.size w w') ∧
      (∀ b w, RdAt w b (Rd.new body 10) → Calls Try.prog 59 #[.agg #[.int .i64 v, .int .u8 rv.toNat, .int .u8 fl.toNat], .pointer (some ⟨b, 0, none⟩)] w (TSkip b (skM v fl (Rd.new body 10)) w)) ∧
      (∀ b w, RdAt w b (skM v fl (Rd.new body 10)) → Calls Try.prog 60 #[.agg #[.int .i64 v, .int .u8 rv.toNat, .int .u8 fl.toNat], .pointer (some ⟨b, 0, none⟩)] w (TFrames b (frsM v (tb fl 128) (skM v fl (Rd.new body 10))).1 (frsM v (tb fl 128) (skM v fl (Rd.new body 10))).2 w)) := by
    intro body hb
    have o := new_ok body 10 (by omega) (by decide)
    obtain ⟨t1, t2⟩ := skM_t v fl (Rd.new body 10)
    refine ⟨fun w => inner_any body 10 w, fun b w h => skip_any v rv fl b _ w h o, fun b w h => tframes_in v rv fl b (tb fl 128) _ w h (skM_ok v fl o) ?_ ?_ (Lib.hid fun w => tspread_any v rv fl w)⟩
    · rw [t2]; show max (10 : Int) 0 ≤ _; decide
    · rw [t1]; exact hb
  generalize wholeB v fl = wh at *
  generalize footB v fl = ft at *
  rcases wh with _ | _
  · simp only [Bool.false_eq_true, if_false]
    obtain ⟨IN, SK, FR⟩ := inner body0 hb0
    generalize frsM v (tb fl 128) (skM v fl (Rd.new body0 10)) = r at *
    obtain ⟨i2, fs⟩ := r
    simp only at FR ⊢
    have FI := Lib.hid (fun b w h => fault_any b i2 w h)
    by_cases hc2 : i2.cd = 0
    rotate_left
    · rw [if_pos (by simpa using hc2)]
      exact tparse_bad2_0 l v rv fl n m3.cd m3.pl i2.cd i2.pl 0 0 (Rd.new l 0) m1 m2 m3 m3 m3 m3 _ _ i2 body0 body0 [] true true fs w h3 hid RD HD SF TK FA WH rfl (Lib.hid IN) (Lib.hid SK) (Lib.hid FR) FI hc1 hc2
    rw [if_neg (by simpa using hc2)]
    rcases ft with _ | _
    · simp only [Bool.false_eq_true, if_false]
      rw [if_neg (by simpa using hc1)]
      exact tparse_good_00 l v rv fl n m3.cd m3.pl i2.cd i2.pl m3.cd m3.pl (Rd.new l 0) m1 m2 m3 m3 m3 _ _ _ i2 body0 body0 _ true true fs w h3 hid RD HD SF TK FA WH rfl (Lib.hid IN) (Lib.hid SK) (Lib.hid FR) FI FT rfl FB3 RS3 hc1 hc2 hc1 _ e64
    · simp only [if_true]
      by_cases hc3 : m5.cd = 0
      · rw [if_neg (by simpa using hc3)]
        exact tparse_good_01 l v rv fl n m3.cd m3.pl i2.cd i2.pl m5.cd m5.pl (Rd.new l 0) m1 m2 m3 m4 m5 _ _ _ i2 body0 body0 _ k1 k2 fs w h3 hid RD HD SF TK FA WH rfl (Lib.hid IN) (Lib.hid SK) (Lib.hid FR) FI FT W1 W2 FB5 RS5 hc1 hc2 hc3 _ e64 (h10 hc1)
      · rw [if_pos (by simpa using hc3)]
        exact tparse_bad3_0 l v rv fl n m3.cd m3.pl i2.cd i2.pl m5.cd m5.pl (Rd.new l 0) m1 m2 m3 m4 m5 m5 _ _ i2 body0 body0 [] k1 k2 fs w h3 hid RD HD SF TK FA WH rfl (Lib.hid IN) (Lib.hid SK) (Lib.hid FR) FI FT W1 W2 FB5 hc1 hc2 hc3 (h10 hc1)
  · simp only [if_true]
    generalize sndDrop false body0 = body at *
    obtain ⟨IN, SK, FR⟩ := inner body (by omega)
    generalize frsM v (tb fl 128) (skM v fl (Rd.new body 10)) = r at *
    obtain ⟨i2, fs⟩ := r
    simp only at FR ⊢
    have FI := Lib.hid (fun b w h => fault_any b i2 w h)
    by_cases hc2 : i2.cd = 0
    rotate_left
    · rw [if_pos (by simpa using hc2)]
      exact tparse_bad2_1 l v rv fl n m3.cd m3.pl i2.cd i2.pl 0 0 (Rd.new l 0) m1 m2 m3 m3 m3 m3 _ _ i2 body0 body [] true true fs w h3 hid RD HD SF TK FA WH DR (Lib.hid IN) (Lib.hid SK) (Lib.hid FR) FI hc1 hc2
    rw [if_neg (by simpa using hc2)]
    rcases ft with _ | _
    · simp only [Bool.false_eq_true, if_false]
      rw [if_neg (by simpa using hc1)]
      exact tparse_good_10 l v rv fl n m3.cd m3.pl i2.cd i2.pl m3.cd m3.pl (Rd.new l 0) m1 m2 m3 m3 m3 _ _ _ i2 body0 body _ true true fs w h3 hid RD HD SF TK FA WH DR (Lib.hid IN) (Lib.hid SK) (Lib.hid FR) FI FT rfl FB3 RS3 hc1 hc2 hc1 _ e64
    · simp only [if_true]
      by_cases hc3 : m5.cd = 0
      · rw [if_neg (by simpa using hc3)]
        exact tparse_good_11 l v rv fl n m3.cd m3.pl i2.cd i2.pl m5.cd m5.pl (Rd.new l 0) m1 m2 m3 m4 m5 _ _ _ i2 body0 body _ k1 k2 fs w h3 hid RD HD SF TK FA WH DR (Lib.hid IN) (Lib.hid SK) (Lib.hid FR) FI FT W1 W2 FB5 RS5 hc1 hc2 hc3 _ e64 (h10 hc1)
      · rw [if_pos (by simpa using hc3)]
        exact tparse_bad3_1 l v rv fl n m3.cd m3.pl i2.cd i2.pl m5.cd m5.pl (Rd.new l 0) m1 m2 m3 m4 m5 m5 _ _ i2 body0 body [] k1 k2 fs w h3 hid RD HD SF TK FA WH DR (Lib.hid IN) (Lib.hid SK) (Lib.hid FR) FI FT W1 W2 FB5 hc1 hc2 hc3 (h10 hc1)
end Go.Proofs.Ytmnmonmbdgedbaa

namespace Go.Proofs.Ytmnmonmbdgedbaa
open Go.RowKit
set_option linter.unusedVariables false
set_option linter.unusedSimpArgs false

/-- frames at their places, one behind the other -/
def placeF (v : Int) : Int → List Fr → List Fr
  | _, [] => []
  | p, f :: fs => { f with pl := p } :: placeF v (p + ((printF v f).length : Nat)) fs
theorem placeF_len (v : Int) : ∀ (p : Int) (fs : List Fr), (placeF v p fs).length = fs.length
  | _, [] => rfl
  | p, f :: fs => by simp [placeF, placeF_len v _ fs]
def zeroPl (f : Fr) : Fr := { f with pl := 0 }
theorem placeF_zero (v : Int) : ∀ (p : Int) (fs : List Fr), (placeF v p fs).map zeroPl = fs.map zeroPl
  | _, [] => rfl
  | p, f :: fs => by simp [placeF, placeF_zero v _ fs, zeroPl]
theorem placeF_body (v : Int) : ∀ (p : Int) (fs : List Fr), bodyL v (placeF v p fs) = bodyL v fs
  | _, [] => rfl
  | p, f :: fs => by
    have h := placeF_body v (p + ((printF v f).length : Nat)) fs
    unfold bodyL at h ⊢
    simp only [placeF, List.map_cons, List.flatten_cons]
    rw [h]
    rfl
theorem tg_parse_none (v : Int) (sp : Bool) (m : Rd) (h : m.left = 0) : frParse v sp m = (m, zeroF, false) := by
  unfold frParse
  rw [if_pos (.inr (.inr (.inl h)))]
theorem run_left_nil {m : Rd} (h : Run m []) : m.left = 0 := by rw [h.left]; rfl
theorem frsS_run (v : Int) (sp : Bool) : ∀ (fs : List Fr) (g : Nat) (m : Rd) (acc : List Fr), fs.length < g → (∀ f ∈ fs, checkF v f = 0 ∧ f.bo.length ≤ 8000000 ∧ (v = 4 → sp = true → f.fm ||| 2 = f.fm)) → Run m (bodyL v fs) →
    frsS v sp g m acc = (adv m (bodyL v fs).length, acc ++ placeF v (m.bs + m.nx) fs)
  | [], g, m, acc, hg, _, h => by
    obtain ⟨g, rfl⟩ : ∃ k, g = k + 1 := ⟨g - 1, by omega⟩
    rw [frsS, tg_parse_none v sp m (run_left_nil h)]
    simp [bodyL, placeF, adv]
  | f :: fs, g, m, acc, hg, hf, h => by
    obtain ⟨g, rfl⟩ : ∃ k, g = k + 1 := ⟨g - 1, by omega⟩
    obtain ⟨h1, h2, h3⟩ := hf f List.mem_cons_self
    have hb : bodyL v (f :: fs) = printF v f ++ bodyL v fs := by simp [bodyL]
    rw [hb] at h
    rw [frsS, frParse_run v sp f m (bodyL v fs) h1 h2 h3 h]
    simp only [if_true]
    rw [frsS_run v sp fs g _ _ (by simp at hg; omega) (fun x hx => hf x (List.mem_cons_of_mem _ hx)) h.adv, hb, adv_adv, List.length_append]
    simp only [placeF, Prod.mk.injEq, true_and]
    rw [List.append_assoc]
    show acc ++ ([_] ++ placeF v (m.bs + ((m.nx + (printF v f).length : Nat) : Int)) fs) = _
    rw [show m.bs + ((m.nx + (printF v f).length : Nat) : Int) = m.bs + (m.nx : Int) + ((printF v f).length : Nat) by omega]
    rfl
theorem print_six (v : Int) (f : Fr) (hc : checkF v f = 0) : 6 ≤ (printF v f).length := by
  obtain ⟨h1, _, _⟩ := named_pos (checkF_ok hc).1
  have h2 := sizeL_len v (lengthF v f)
  rw [printF_eq]
  simp only [List.length_append]
  split at h2 <;> omega
theorem bodyL_six (v : Int) : ∀ (fs : List Fr), (∀ f ∈ fs, checkF v f = 0) → 6 * fs.length ≤ (bodyL v fs).length
  | [], _ => by simp
  | f :: fs, h => by
    have h1 := print_six v f (h f List.mem_cons_self)
    have h2 := bodyL_six v fs (fun x hx => h x (List.mem_cons_of_mem _ hx))
    have hb : bodyL v (f :: fs) = printF v f ++ bodyL v fs := by simp [bodyL]
    rw [hb, List.length_append, List.length_cons]
    omega
theorem frsM_run (v : Int) (sp : Bool) (fs : List Fr) (m : Rd) (hf : ∀ f ∈ fs, checkF v f = 0 ∧ f.bo.length ≤ 8000000 ∧ (v = 4 → sp = true → f.fm ||| 2 = f.fm)) (h : Run m (bodyL v fs)) :
    frsM v sp m = (adv m (bodyL v fs).length, placeF v (m.bs + m.nx) fs) := by
  have h6 := bodyL_six v fs (fun f hx => (hf f hx).1)
  have hl := h.len
  have hR : Run (adv m (bodyL v fs).length) [] := Run.adv (by rw [List.append_nil]; exact h)
  unfold frsM
  rw [frsS_run v sp fs _ m [] (by omega) hf h]
  unfold padM
  rw [hR.rest]
  simp only [List.length_nil, List.nil_append]
  rw [if_neg (by omega)]
  rfl
set_option maxRecDepth 100000 in
theorem an_facts : ∀ n : Nat, n < 256 → (anB (UInt8.ofNat n) (192 - (192 &&& 64)) = false → anB (UInt8.ofNat n) 192 = false ∧ tb (UInt8.ofNat n) 64 = false ∧ UInt8.ofNat n &&& 191 = UInt8.ofNat n) ∧
    (anB (UInt8.ofNat n) (224 - (224 &&& 64)) = false → anB (UInt8.ofNat n) 224 = false ∧ tb (UInt8.ofNat n) 64 = false ∧ UInt8.ofNat n &&& 191 = UInt8.ofNat n) ∧
    (anB (UInt8.ofNat n) (240 - (240 &&& 64)) = false → anB (UInt8.ofNat n) 240 = false ∧ tb (UInt8.ofNat n) 64 = false ∧ UInt8.ofNat n &&& 191 = UInt8.ofNat n) := by decide
theorem fl_ok {v : Int} {fl : UInt8} (hv : v = 2 ∨ v = 3 ∨ v = 4) (h : anB fl (allowN v - (allowN v &&& 64)) = false) : anB fl (allowN v) = false ∧ tb fl 64 = false ∧ fl &&& 191 = fl := by
  have e : UInt8.ofNat fl.toNat = fl := by simp
  obtain ⟨a, b, c⟩ := an_facts fl.toNat (UInt8.toNat_lt fl)
  rw [e] at a b c
  rcases hv with rfl | rfl | rfl
  · exact a h
  · exact b h
  · exact c h
theorem bigL_nat (n : Nat) (h : n < 256) : bigL n 1 = [UInt8.ofNat n] := by
  simp [bigL, smallL]
/-- a head that may be is read as it was -/
theorem hdM_run (v : Int) (rv fl : UInt8) (m : Rd) (r : List UInt8) (hb : badH v rv fl = false) (h : Run m ([73, 68, 51] ++ (bigL v.toNat 1 ++ (bigL rv.toNat 1 ++ (bigL fl.toNat 1 ++ r))))) :
    hdM m = (adv m 6, ⟨v, rv, fl⟩) := by
  obtain ⟨hv, hr, han⟩ := badH_ok hb
  obtain ⟨h1, h2, h3⟩ := fl_ok hv han
  have hv2 : letters v ≠ 0 := by rcases hv with rfl | rfl | rfl <;> decide
  have hvt : v.toNat < 256 := by omega
  have R1 := h.adv
  have R2 := R1.adv
  have R3 := R2.adv
  unfold hdM
  rw [h.want]
  simp only
  rw [R1.take_k _ (by rw [bigL_len])]
  simp only
  rw [R2.take_k _ (by rw [bigL_len])]
  simp only
  rw [R3.take_k _ (by rw [bigL_len])]
  simp only
  have e1 : ((numL (bigL v.toNat 1) : Nat) : Int) = v := by rw [bigL_nat _ hvt, numL_one, UInt8.toNat_ofNat']; omega
  have e2 : UInt8.ofNat (numL (bigL rv.toNat 1)) = rv := by rw [bigL_1, numL_one]; simp
  have e3 : UInt8.ofNat (numL (bigL fl.toNat 1)) = fl := by rw [bigL_1, numL_one]; simp
  rw [e1, e2, e3]
  have c0 : (adv (adv (adv (adv m ([73, 68, 51] : List UInt8).length) (bigL v.toNat 1).length) (bigL rv.toNat 1).length) (bigL fl.toNat 1).length).cd = 0 := h.1
  rw [if_neg (by rw [c0]; simp), h1, h2]
  have x1 : decide (letters v = 0) = false := by simpa using hv2
  have x2 : ((rv.toNat : Int) == 255) = false := (bad_h_not hb).2.1
  rw [x1, x2]
  simp only [fail4, Bool.false_eq_true, if_false, Bool.and_false]
  rw [bigL_len, bigL_len, bigL_len, adv_adv, adv_adv, adv_adv]
  rfl
/-- a tag that may be printed, and isn't too large, is read as it was, with what stands behind it -/
theorem prT_print (t : Tg) (r : List UInt8) (hc : (checkT t).1 = 0) (hbo : ∀ f ∈ t.fs, f.bo.length ≤ 8000000) (hl : (bodyL t.v t.fs).length ≤ 100000000) :
    prT (printT t ++ r) = (⟨t.v, t.rv, t.fl, placeF t.v 10 t.fs⟩, r, 0, 0) := by
  obtain ⟨_, hb, hf, h4⟩ := checkT_ok hc
  obtain ⟨hv, hr, han⟩ := badH_ok hb
  obtain ⟨h1, h2, h3⟩ := fl_ok hv han
  have hbt := bodyT_le t.v t.fl t.fs
  have hff : ∀ f ∈ t.fs, checkF t.v f = 0 ∧ f.bo.length ≤ 8000000 ∧ (t.v = 4 → tb t.fl 128 = true → f.fm ||| 2 = f.fm) := fun f hx =>
    ⟨(badIn_ok (hf f hx)).1, hbo f hx, fun a b => or_tb _ ((badIn_ok (hf f hx)).2 a b)⟩
  generalize hB : bodyT t.v t.fl t.fs = B at *
  have hpe : printT t = [73, 68, 51] ++ (headL t.v t.rv t.fl B.length ++ (B ++ tailT (footB t.v t.fl) (headL t.v t.rv t.fl B.length))) := by unfold printT; rw [hB]
  have hhe : headL t.v t.rv t.fl B.length = bigL t.v.toNat 1 ++ (bigL t.rv.toNat 1 ++ (bigL t.fl.toNat 1 ++ safeL B.length)) := by simp [headL, headT]
  have hhl := headL_len t.v t.rv t.fl B.length
  have hT : printT t ++ r = [73, 68, 51] ++ (headL t.v t.rv t.fl B.length ++ (B ++ (tailT (footB t.v t.fl) (headL t.v t.rv t.fl B.length) ++ r))) := by rw [hpe]; simp [List.append_assoc]
  generalize printT t ++ r = l at *
  have R0 : Run (Rd.new l 0) ([73, 68, 51] ++ (bigL t.v.toNat 1 ++ (bigL t.rv.toNat 1 ++ (bigL t.fl.toNat 1 ++ (safeL B.length ++ (B ++ (tailT (footB t.v t.fl) (headL t.v t.rv t.fl B.length) ++ r))))))) :=
    (Run.new l 0).cons (by rw [hT, hhe]; simp [List.append_assoc])
  have R6 : Run (adv (Rd.new l 0) 6) (safeL B.length ++ (B ++ (tailT (footB t.v t.fl) (headL t.v t.rv t.fl B.length) ++ r))) := by
    have q := R0.adv.adv.adv.adv
    rw [bigL_len, bigL_len, bigL_len, adv_adv, adv_adv, adv_adv] at q
    exact q
  have hl3 : ¬ (l.length < 3 ∨ l.take 3 ≠ [73, 68, 51]) := by
    rw [hT]
    simp
  unfold prT
  rw [if_neg hl3, hdM_run t.v t.rv t.fl _ _ hb R0]
  simp only
  rw [R6.safe _ (by omega)]
  simp only
  have R10 := R6.adv
  rw [safeL_length] at R10
  rw [R10.take]
  simp only
  rw [if_neg (by rw [R10.adv.1]; simp)]
  have hbody : (if wholeB t.v t.fl = true then sndDrop false B else B) = bodyL t.v t.fs := by
    rw [← hB]
    unfold bodyT
    split
    · rename_i hw
      exact drop_put _ false (fun h => by cases h)
    · rfl
  rw [hbody]
  have hsk : skM t.v t.fl (Rd.new (bodyL t.v t.fs) 10) = Rd.new (bodyL t.v t.fs) 10 := by unfold skM; rw [if_pos h2]
  rw [hsk, frsM_run t.v (tb t.fl 128) t.fs _ hff (Run.new _ _)]
  simp only
  rw [if_neg (by simp [adv, Rd.new])]
  have hmx : (Rd.new (bodyL t.v t.fs) 10).bs + ((Rd.new (bodyL t.v t.fs) 10).nx : Int) = 10 := rfl
  rw [hmx, h3]
  have RB := R10.adv
  rcases hft : footB t.v t.fl with _ | _
  · rw [hft] at RB
    have RB' : Run (adv (adv (adv (Rd.new l 0) 6) 4) B.length) r := RB
    simp only [Bool.false_eq_true, if_false]
    rw [if_neg (by rw [RB'.1]; simp), RB'.rest]
  · rw [hft] at RB
    have RB' : Run (adv (adv (adv (Rd.new l 0) 6) 4) B.length) ([51, 68, 73] ++ (headL t.v t.rv t.fl B.length ++ r)) := RB.cons (by simp [tailT])
    have hd7 : (l.drop 3).take 7 = headL t.v t.rv t.fl B.length := by
      rw [hT, List.drop_append_of_le_length (by simp)]
      show ([] ++ _ : List UInt8).take 7 = _
      rw [List.nil_append, ← hhl, List.take_left]
    simp only [if_true]
    rw [hd7, RB'.want]
    simp only
    rw [RB'.adv.want]
    simp only
    rw [if_neg (by rw [RB'.adv.adv.1]; simp), RB'.adv.adv.rest]
end Go.Proofs.Ytmnmonmbdgedbaa

namespace Go.Proofs.Ytmnmonmbdgedbaa
open Go.RowKit
set_option linter.unusedVariables false
set_option linter.unusedSimpArgs false

theorem take_ok_int {m : Rd} {n : Int} (hn : 0 ≤ n) (hm : m.nx ≤ m.t.length) (h : (m.take n).1.cd = 0) : m.cd = 0 ∧ m.nx + n.toNat ≤ m.t.length ∧ m.take n = (adv m n.toNat, (m.t.drop m.nx).take n.toNat) := by
  obtain ⟨k, rfl⟩ : ∃ k : Nat, n = k := ⟨n.toNat, by omega⟩
  exact take_ok_of hm h
theorem frsS_sound (v : Int) (sp : Bool) : ∀ (g : Nat) (m : Rd) (acc : List Fr), m.nx ≤ m.t.length → ∃ fs, (frsS v sp g m acc).2 = acc ++ fs ∧
    (∀ f ∈ fs, checkF v f = 0 ∧ f.bo.length ≤ m.t.length ∧ (v = 4 → sp = true → tb f.fm 2 = true)) ∧ m.nx + 6 * fs.length ≤ m.t.length ∧ ((∀ f ∈ fs, spreadB v f.fm = false) → m.nx + (bodyL v fs).length ≤ m.t.length) ∧ m.nx + (fs.map (fun f => f.bo.length)).sum ≤ m.t.length
  | 0, m, acc, hm => ⟨[], by simp [frsS], by simp, by simpa using hm, fun _ => by simpa [bodyL] using hm, by simpa using hm⟩
  | g + 1, m, acc, hm => by
    rw [frsS]
    split
    · rename_i h
      obtain ⟨k, h1, h2, h3, _, h4, _, h5, h6, h7⟩ := frParse_sound v sp m (frParse v sp m).1 (frParse v sp m).2.1 hm (by rw [← h])
      rw [h1]
      obtain ⟨fs, g1, g2, g3, g4, g6⟩ := frsS_sound v sp g (adv m k) (acc ++ [(frParse v sp m).2.1]) h3
      refine ⟨(frParse v sp m).2.1 :: fs, by rw [g1]; simp, ?_, ?_, ?_, ?_⟩
      · intro f hf
        rcases List.mem_cons.1 hf with rfl | hf
        · exact ⟨h4, by omega, h6⟩
        · exact g2 f hf
      · have e : (adv m k).nx = m.nx + k := rfl
        have e2 : (adv m k).t = m.t := rfl
        rw [e, e2] at g3
        rw [List.length_cons]
        omega
      · intro hs
        have g5 := g4 (fun f hf => hs f (List.mem_cons_of_mem _ hf))
        have h8 := h7 (hs _ List.mem_cons_self)
        have e : (adv m k).nx = m.nx + k := rfl
        have e2 : (adv m k).t = m.t := rfl
        rw [e, e2] at g5
        have hb : bodyL v ((frParse v sp m).2.1 :: fs) = printF v (frParse v sp m).2.1 ++ bodyL v fs := by simp [bodyL]
        rw [hb, List.length_append]
        omega
      · have e : (adv m k).nx = m.nx + k := rfl
        have e2 : (adv m k).t = m.t := rfl
        rw [e, e2] at g6
        rw [List.map_cons, List.sum_cons]
        omega
    · exact ⟨[], by simp, by simp, by simpa using hm, fun _ => by simpa [bodyL] using hm, by simpa using hm⟩
theorem skM_nx (v : Int) (fl : UInt8) {m : Rd} (hm : m.nx ≤ m.t.length) : (skM v fl m).nx ≤ (skM v fl m).t.length := by
  have tk : ∀ (r : Rd) (n : Int), r.nx ≤ r.t.length → (r.take n).1.nx ≤ (r.take n).1.t.length := by
    intro r n hr
    unfold Rd.take
    split
    · split
      · unfold Rd.short
        rw [Rd.fail_nx, Rd.fail_t]
        exact hr
      · rename_i h1 h2
        simp only [not_or] at h2
        show r.nx + n.toNat ≤ r.t.length
        omega
    · exact hr
  have sf : ∀ (r : Rd), r.nx ≤ r.t.length → r.safe.1.nx ≤ r.safe.1.t.length := by
    intro r hr
    unfold Rd.safe
    split
    · rw [Rd.fail_nx, Rd.fail_t]
      exact tk _ _ hr
    · exact tk _ _ hr
  unfold skM
  split
  · exact hm
  · split
    · exact tk _ _ (tk _ _ hm)
    · refine tk _ _ ?_
      split
      · rw [Rd.fail_nx, Rd.fail_t]; exact sf _ hm
      · exact sf _ hm
set_option maxRecDepth 100000 in
theorem fl_facts : ∀ n : Nat, n < 256 → (anB (UInt8.ofNat n) 192 = false → anB (UInt8.ofNat n &&& 191) (192 - (192 &&& 64)) = false) ∧ (anB (UInt8.ofNat n) 224 = false → anB (UInt8.ofNat n &&& 191) (224 - (224 &&& 64)) = false) ∧
    (anB (UInt8.ofNat n) 240 = false → anB (UInt8.ofNat n &&& 191) (240 - (240 &&& 64)) = false) ∧ tb (UInt8.ofNat n &&& 191) 128 = tb (UInt8.ofNat n) 128 ∧ tb (UInt8.ofNat n &&& 191) 16 = tb (UInt8.ofNat n) 16 := by decide
theorem fl_keep (fl : UInt8) : tb (fl &&& 191) 128 = tb fl 128 ∧ tb (fl &&& 191) 16 = tb fl 16 := by
  have e : UInt8.ofNat fl.toNat = fl := by simp
  have h := fl_facts fl.toNat (UInt8.toNat_lt fl)
  rw [e] at h
  exact ⟨h.2.2.2.1, h.2.2.2.2⟩
theorem fl_may {v : Int} {fl : UInt8} (hv : letters v ≠ 0) (h : anB fl (allowN v) = false) : anB (fl &&& 191) (allowN v - (allowN v &&& 64)) = false := by
  have e : UInt8.ofNat fl.toNat = fl := by simp
  obtain ⟨a, b, c, _⟩ := fl_facts fl.toNat (UInt8.toNat_lt fl)
  rw [e] at a b c
  rcases letters_of hv with rfl | rfl | rfl
  · exact a h
  · exact b h
  · exact c h
/-- a tag that is read may be printed; if nothing of it is spread, it isn't longer than it was -/
theorem prT_sound (l : List UInt8) (hl : l.length ≤ 24000) (t : Tg) (rest : List UInt8) (q : Int) (h : prT l = (t, rest, 0, q)) :
    (t = zeroT ∧ rest = l ∧ q = 0) ∨ (letters t.v ≠ 0 ∧ q = 0 ∧ checkT t = (0, 0) ∧ 6 * t.fs.length ≤ l.length ∧ (∀ f ∈ t.fs, f.bo.length ≤ l.length) ∧ rest.length + 10 ≤ l.length ∧
      (tb t.fl 128 = false → (∀ f ∈ t.fs, spreadB t.v f.fm = false) → (printT t).length + rest.length ≤ l.length) ∧ (t.fs.map (fun f => f.bo.length)).sum ≤ l.length) := by
  unfold prT at h
  split at h
  · left
    simp only [Prod.mk.injEq] at h
    exact ⟨h.1.symm, h.2.1.symm, h.2.2.2.symm⟩
  rename_i hid
  right
  simp only at h
  generalize ha : hdM (Rd.new l 0) = A at h
  split at h
  · rename_i hc
    simp only [Prod.mk.injEq] at h
    exact absurd h.2.2.1 hc
  rename_i hb0
  have hb0 : (A.1.safe.1.take A.1.safe.2).1.cd = 0 := by simpa using hb0
  have hA1 : (hdM (Rd.new l 0)).1.Ok := hdM_ok (new_ok l 0 (by omega) (by decide))
  rw [ha] at hA1
  have hs0 : A.1.safe.1.cd = 0 := by
    by_cases hx : A.1.safe.1.cd = 0
    · exact hx
    · rw [take_dead hx] at hb0; exact hb0
  obtain ⟨sa, sb, sc⟩ := safe_ok_of hA1.1 hs0
  obtain ⟨_, h1, h2, _, ⟨c, hcv, _⟩, h3, h4, h5, _⟩ := hdM_sound (m := Rd.new l 0) (by simp [Rd.new]) (by rw [ha]; exact sa)
  rw [ha] at h2 hcv h3 h4 h5
  have hn := safe_nonneg A.1
  have hnx : A.1.nx = 6 := by rw [h2]; rfl
  have hAt : A.1.t = l := by rw [h2]; rfl
  obtain ⟨_, tb1, tc⟩ := take_ok_int hn (by rw [sc]; exact sb) hb0
  generalize hk : A.1.safe.2.toNat = k at *
  have e1 : (A.1.safe.1.take A.1.safe.2).1 = adv (Rd.new l 0) (10 + k) := by
    rw [tc, sc, h2]
    simp only [adv_adv]
  have hkl : 10 + k ≤ l.length := by
    rw [sc, h2] at tb1
    have : (0 + 6 + 4 : Nat) + k ≤ l.length := tb1
    omega
  have e2 : (A.1.safe.1.take A.1.safe.2).2.length ≤ k := by
    rw [tc]
    simp only [List.length_take]
    omega
  rw [e1] at h
  generalize (A.1.safe.1.take A.1.safe.2).2 = B at *
  have hbody : (if wholeB A.2.v A.2.fl = true then sndDrop false B else B).length ≤ k := by
    have := sndDrop_len B false
    split <;> omega
  generalize (if wholeB A.2.v A.2.fl = true then sndDrop false B else B) = body at *
  have hsk := skM_t A.2.v A.2.fl (Rd.new body 10)
  have hsn := skM_nx A.2.v A.2.fl (m := Rd.new body 10) (by simp [Rd.new])
  obtain ⟨fs, f1, f2, f3, f4, f5⟩ := frsS_sound A.2.v (tb A.2.fl 128) ((skM A.2.v A.2.fl (Rd.new body 10)).t.length + 1) (skM A.2.v A.2.fl (Rd.new body 10)) [] hsn
  have hst : (skM A.2.v A.2.fl (Rd.new body 10)).t = body := hsk.1
  generalize hM5 : (if footB A.2.v A.2.fl = true then ((((adv (Rd.new l 0) (10 + k)).want [51, 68, 73]).1.want ((l.drop 3).take 7)).1) else adv (Rd.new l 0) (10 + k)) = M5 at h
  split at h
  · rename_i hc
    simp only [Prod.mk.injEq] at h
    exact absurd h.2.2.1 hc
  split at h
  · rename_i hc
    simp only [Prod.mk.injEq] at h
    exact absurd h.2.2.1 hc
  rename_i hm5
  simp only [Prod.mk.injEq, true_and] at h
  obtain ⟨ht, hr, hq⟩ := h
  have hfs : (frsM A.2.v (tb A.2.fl 128) (skM A.2.v A.2.fl (Rd.new body 10))).2 = fs := by
    unfold frsM
    rw [f1, List.nil_append]
  rw [hfs] at ht
  obtain ⟨k1, k2⟩ := fl_keep A.2.fl
  rw [hst] at f2 f3 f4 f5
  have hm5' : (if footB A.2.v A.2.fl = true then ((((adv (Rd.new l 0) (10 + k)).want [51, 68, 73]).1.want ((l.drop 3).take 7)).1) else adv (Rd.new l 0) (10 + k)) = adv (Rd.new l 0) (10 + k + if footB A.2.v A.2.fl = true then 10 else 0) ∧ 10 + k + (if footB A.2.v A.2.fl = true then 10 else 0) ≤ l.length := by
    have hm5 : (if footB A.2.v A.2.fl = true then ((((adv (Rd.new l 0) (10 + k)).want [51, 68, 73]).1.want ((l.drop 3).take 7)).1) else adv (Rd.new l 0) (10 + k)).cd = 0 := by rw [hM5]; simpa using hm5
    by_cases hft : footB A.2.v A.2.fl = true
    · rw [if_pos hft] at hm5 ⊢
      rw [if_pos hft]
      have hx : ((adv (Rd.new l 0) (10 + k)).want [51, 68, 73]).1.cd = 0 := by
        have ok := tg_want_ok (m := adv (Rd.new l 0) (10 + k)) [51, 68, 73] ⟨by show 0 + (10 + k) ≤ l.length; omega, by show l.length ≤ _; omega, by show (0 : Int) ≤ max 0 0; decide, by show max (0 : Int) 0 ≤ 3000000000000; decide⟩
        exact (want_ok_of ok.1 hm5).1
      obtain ⟨_, q1, q2, _⟩ := want_ok_of (m := adv (Rd.new l 0) (10 + k)) (by show 0 + (10 + k) ≤ l.length; omega) hx
      rw [q2] at hm5 ⊢
      obtain ⟨_, q3, q4, _⟩ := want_ok_of (m := adv (adv (Rd.new l 0) (10 + k)) ([51, 68, 73] : List UInt8).length) (by exact q1) hm5
      have q7 : ((l.drop 3).take 7).length = 7 := by rw [List.length_take, List.length_drop]; omega
      rw [q7] at q3 q4
      refine ⟨by rw [q4, adv_adv, adv_adv]; congr 1, ?_⟩
      have : 0 + (10 + k) + 3 + 7 ≤ l.length := q3
      omega
    · rw [if_neg hft, if_neg hft]
      exact ⟨rfl, by omega⟩
  rw [← hM5, hm5'.1] at hr
  generalize hj : 10 + k + (if footB A.2.v A.2.fl = true then 10 else 0) = j at *
  have hrl : rest.length = l.length - j := by
    rw [← hr, rest_of (m := adv (Rd.new l 0) j) (by show 0 + j ≤ l.length; omega) rfl]
    show (l.drop (0 + j)).length = _
    rw [List.length_drop]
    omega
  have hjl : j ≤ l.length := hm5'.2
  have e : t = ⟨A.2.v, A.2.rv, A.2.fl &&& 191, fs⟩ := ht.symm
  subst e
  have hbadH : badH A.2.v A.2.rv (A.2.fl &&& 191) = false := by
    unfold badH
    rw [fl_may h3 h5]
    have : A.2.rv.toNat ≠ 255 := fun e => h4 (by rw [u8_eq]; exact e)
    simp only [Bool.or_eq_false_iff, decide_eq_false_iff_not, and_true]
    exact ⟨h3, by simp; omega⟩
  have hbadF : ∀ f ∈ fs, badIn A.2.v (A.2.fl &&& 191) f = false := by
    intro f hf
    obtain ⟨x1, _, x3⟩ := f2 f hf
    unfold badIn
    rw [k1, x1]
    by_cases h4 : A.2.v = 4
    · cases hsp : tb A.2.fl 128
      · simp
      · rw [x3 h4 hsp]; simp
    · simp [h4]
  refine ⟨h3, hq.symm, ?_, (show 6 * fs.length ≤ l.length by omega), fun f hf => by have := (f2 f hf).2.1; omega, by omega, ?_, (show (fs.map (fun f => f.bo.length)).sum ≤ l.length by omega)⟩
  · unfold checkT
    rw [hbadH]
    have : firstBad A.2.v (A.2.fl &&& 191) fs = fs.length := findIdx_none hbadF
    simp only [this, Bool.false_eq_true, if_false, Nat.lt_irrefl]
    rw [if_neg (by omega)]
  · intro hs hfs
    have g := f4 hfs
    have hw : wholeB A.2.v (A.2.fl &&& 191) = false := by
      unfold wholeB
      split
      · rfl
      · exact hs
    have hft : footB A.2.v (A.2.fl &&& 191) = footB A.2.v A.2.fl := by unfold footB; rw [k2]
    unfold printT tailT bodyT
    simp only [hw, hft, Bool.false_eq_true, if_false, List.length_append, headL_len]
    have : (if footB A.2.v A.2.fl = true then [51, 68, 73] ++ headL A.2.v A.2.rv (A.2.fl &&& 191) (bodyL A.2.v fs).length else []).length = if footB A.2.v A.2.fl = true then 10 else 0 := by
      split <;> simp [headL_len]
    rw [this]
    simp only [List.length_cons, List.length_nil]
    omega
/-- places are of no account -/
theorem checkT_place (t : Tg) (p : Int) : checkT ⟨t.v, t.rv, t.fl, placeF t.v p t.fs⟩ = checkT t := by
  have hb : ∀ (fs : List Fr) (p : Int), firstBad t.v t.fl (placeF t.v p fs) = firstBad t.v t.fl fs := by
    intro fs
    induction fs with
    | nil => intro p; rfl
    | cons f fs ih =>
      intro p
      have e : badIn t.v t.fl { f with pl := p } = badIn t.v t.fl f := rfl
      have ih := ih (p + ((printF t.v f).length : Nat))
      unfold firstBad at ih ⊢
      simp only [placeF, List.findIdx_cons, e, ih]
  unfold checkT
  simp only [hb, placeF_len]
theorem printT_place (t : Tg) (p : Int) : printT ⟨t.v, t.rv, t.fl, placeF t.v p t.fs⟩ = printT t := by
  unfold printT bodyT
  simp only [placeF_body]
end Go.Proofs.Ytmnmonmbdgedbaa
