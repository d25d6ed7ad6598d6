/- UTF-8 (plain): what is decoded of a sign's bytes; texts made of signs. | Layer 2 (point): Scalar, scan, Check, Count, walked. -/
import Derived.Test.YtffhmjlojmoomaaGreatDoorZLow
import Derived.Lib.RuneBytes
import Derived.Lib.DecodeN
import Derived.Lib.OthersKept
import Derived.Test.YtffhmjlojmoomaaGreatDoorZOct1
import Derived.Deep.DeepCutAuto

namespace Go.Proofs.YtffhmjlojmoomaaGreatDoor
open Go.RowKit
set_option linter.unusedVariables false
set_option linter.unusedSimpArgs false

/-- a sign's number -/
def Sc (p : Nat) : Prop := p < 55296 ∨ (57344 ≤ p ∧ p < 1114112)
def encR (p : Nat) : List UInt8 := Lib.encodeRune (p : Int)
def dec (t : List UInt8) : Nat × Nat := Utf8.decode ⟨t.toArray⟩ 0
theorem get_list (t : List UInt8) (k : Nat) : (ByteArray.mk t.toArray).get! k = t.getD k 0 := by
  show t.toArray[k]! = _
  by_cases h : k < t.length
  · simp [h, List.getD_eq_getElem?_getD]
  · rw [List.getD_eq_getElem?_getD, List.getElem?_eq_none (by omega)]
    simp [getElem!_def, h]
    rfl
theorem dec_list (t : List UInt8) (i : Nat) : Utf8.decode ⟨t.toArray⟩ i = Lib.decodeN (t.length - i) (t.getD i 0).toNat (t.getD (i + 1) 0).toNat (t.getD (i + 2) 0).toNat (t.getD (i + 3) 0).toNat := by
  rw [Lib.decode_at, get_list, get_list, get_list, get_list]
  rfl
theorem dec_at (t : List UInt8) (i : Nat) : Utf8.decode ⟨t.toArray⟩ i = dec (t.drop i) := by
  unfold dec
  rw [dec_list, dec_list, List.length_drop, Nat.sub_zero]
  simp only [List.getD_eq_getElem?_getD, List.getElem?_drop, Nat.zero_add, Nat.add_zero]
theorem u8_of (x : Nat) : (UInt8.ofNat x).toNat = x % 256 := UInt8.toNat_ofNat'
theorem encR_one {p : Nat} (h : p < 128) : encR p = [UInt8.ofNat p] := by
  unfold encR Lib.encodeRune
  rw [Lib.encodeRuneZ_one (by omega) (by omega)]
  rfl
theorem encR_two {p : Nat} (h0 : 128 ≤ p) (h1 : p < 2048) : encR p = [UInt8.ofNat (192 + p / 64), UInt8.ofNat (128 + p % 64)] := by
  unfold encR Lib.encodeRune
  rw [Lib.encodeRuneZ_two (by omega) (by omega)]
  rfl
theorem encR_three {p : Nat} (h : (2048 ≤ p ∧ p < 55296) ∨ (57344 ≤ p ∧ p < 65536)) : encR p = [UInt8.ofNat (224 + p / 4096), UInt8.ofNat (128 + p / 64 % 64), UInt8.ofNat (128 + p % 64)] := by
  unfold encR Lib.encodeRune
  rw [Lib.encodeRuneZ_three (by omega)]
  rfl
theorem encR_four {p : Nat} (h0 : 65536 ≤ p) (h1 : p < 1114112) : encR p = [UInt8.ofNat (240 + p / 262144), UInt8.ofNat (128 + p / 4096 % 64), UInt8.ofNat (128 + p / 64 % 64), UInt8.ofNat (128 + p % 64)] := by
  unfold encR Lib.encodeRune
  rw [Lib.encodeRuneZ_four (by omega) (by omega)]
  rfl
theorem encR_len (p : Nat) : 1 ≤ (encR p).length ∧ (encR p).length ≤ 4 := by
  have h := Lib.encodeRuneZ_length (p : Int)
  unfold encR Lib.encodeRune
  rw [List.length_map]
  exact h
theorem dec_enc {p : Nat} (h : Sc p) (r : List UInt8) : dec (encR p ++ r) = (p, (encR p).length) := by
  unfold dec
  rw [dec_list]
  unfold Sc at h
  by_cases h1 : p < 128
  · rw [encR_one h1]
    simp only [List.cons_append, List.nil_append, List.getD_cons_zero, u8_of, Lib.decodeN]
    rw [if_pos (by omega)]
    simp
    omega
  · by_cases h2 : p < 2048
    · rw [encR_two (by omega) h2]
      simp only [List.cons_append, List.nil_append, List.getD_cons_zero, List.getD_cons_succ, u8_of, Lib.decodeN, List.length_cons, Nat.zero_add, Nat.sub_zero, List.length_nil]
      rw [if_neg (by omega), if_pos (by omega), if_pos (by omega)]
      simp
      omega
    · by_cases h3 : p < 65536
      · rw [encR_three (by omega)]
        simp only [List.cons_append, List.nil_append, List.getD_cons_zero, List.getD_cons_succ, u8_of, Lib.decodeN, List.length_cons, Nat.zero_add, Nat.sub_zero, List.length_nil]
        rw [if_neg (by omega), if_neg (by omega), if_pos (by omega), if_pos (by omega)]
        simp
        omega
      · rw [encR_four (by omega) (by omega)]
        simp only [List.cons_append, List.nil_append, List.getD_cons_zero, List.getD_cons_succ, u8_of, Lib.decodeN, List.length_cons, Nat.zero_add, Nat.sub_zero, List.length_nil]
        rw [if_neg (by omega), if_neg (by omega), if_neg (by omega), if_pos (by omega), if_pos (by omega)]
        simp
        omega
theorem ofNat_eq {x : Nat} {b : UInt8} (h : x = b.toNat) : UInt8.ofNat x = b := by rw [h]; exact UInt8.ofNat_toNat
/-- where a sign is decoded, its bytes stand there -/
theorem dec_good {t : List UInt8} (h0 : t ≠ []) (h : ¬ ((dec t).1 = 65533 ∧ (dec t).2 ≤ 1)) : Sc (dec t).1 ∧ t = encR (dec t).1 ++ t.drop (dec t).2 ∧ (dec t).2 = (encR (dec t).1).length := by
  obtain ⟨b0, t, rfl⟩ : ∃ b r, t = b :: r := by
    cases t with
    | nil => exact absurd rfl h0
    | cons b r => exact ⟨b, r, rfl⟩
  have hb0 := UInt8.toNat_lt b0
  revert h
  unfold dec
  rw [dec_list]
  unfold Lib.decodeN
  simp only [List.getD_cons_zero, List.length_cons, Nat.sub_zero, Nat.zero_add, List.getD_cons_succ]
  split
  · rename_i h1
    intro _
    refine ⟨.inl (by omega), ?_, ?_⟩
    · show b0 :: t = encR b0.toNat ++ t
      rw [encR_one h1, ofNat_eq rfl]
      rfl
    · rw [encR_one h1]; rfl
  · split
    · rename_i h1 h2
      obtain ⟨b1, t, rfl⟩ : ∃ b r, t = b :: r := by
        cases t with
        | nil => simp at h2
        | cons b r => exact ⟨b, r, rfl⟩
      have hb1 := UInt8.toNat_lt b1
      simp only [List.getD_cons_zero, List.length_cons] at h2 ⊢
      split
      · rename_i h3
        intro _
        have e : encR (b0.toNat % 32 * 64 + b1.toNat % 64) = [b0, b1] := by
          rw [encR_two (by omega) (by omega), ofNat_eq (b := b0) (by omega), ofNat_eq (b := b1) (by omega)]
        refine ⟨.inl (by show _ < 55296; omega), ?_, ?_⟩
        · show b0 :: b1 :: t = encR (b0.toNat % 32 * 64 + b1.toNat % 64) ++ t
          rw [e]; rfl
        · show 2 = (encR (b0.toNat % 32 * 64 + b1.toNat % 64)).length
          rw [e]; rfl
      · intro hn; exact absurd ⟨rfl, Nat.le_refl _⟩ hn
    · split
      · rename_i h1 _ h2
        obtain ⟨b1, t, rfl⟩ : ∃ b r, t = b :: r := by
          cases t with
          | nil => simp at h2
          | cons b r => exact ⟨b, r, rfl⟩
        obtain ⟨b2, t, rfl⟩ : ∃ b r, t = b :: r := by
          cases t with
          | nil => simp at h2
          | cons b r => exact ⟨b, r, rfl⟩
        have hb1 := UInt8.toNat_lt b1
        have hb2 := UInt8.toNat_lt b2
        simp only [List.getD_cons_zero, List.getD_cons_succ, List.length_cons] at h2 ⊢
        split
        · rename_i h3
          intro _
          have e : encR (b0.toNat % 16 * 4096 + b1.toNat % 64 * 64 + b2.toNat % 64) = [b0, b1, b2] := by
            rw [encR_three (by omega), ofNat_eq (b := b0) (by omega), ofNat_eq (b := b1) (by omega), ofNat_eq (b := b2) (by omega)]
          refine ⟨by show Sc (b0.toNat % 16 * 4096 + b1.toNat % 64 * 64 + b2.toNat % 64); unfold Sc; omega, ?_, ?_⟩
          · show b0 :: b1 :: b2 :: t = encR (b0.toNat % 16 * 4096 + b1.toNat % 64 * 64 + b2.toNat % 64) ++ t
            rw [e]; rfl
          · show 3 = (encR (b0.toNat % 16 * 4096 + b1.toNat % 64 * 64 + b2.toNat % 64)).length
            rw [e]; rfl
        · intro hn; exact absurd ⟨rfl, Nat.le_refl _⟩ hn
      · split
        · rename_i h1 _ _ h2
          obtain ⟨b1, t, rfl⟩ : ∃ b r, t = b :: r := by
            cases t with
            | nil => simp at h2
            | cons b r => exact ⟨b, r, rfl⟩
          obtain ⟨b2, t, rfl⟩ : ∃ b r, t = b :: r := by
            cases t with
            | nil => simp at h2
            | cons b r => exact ⟨b, r, rfl⟩
          obtain ⟨b3, t, rfl⟩ : ∃ b r, t = b :: r := by
            cases t with
            | nil => simp at h2
            | cons b r => exact ⟨b, r, rfl⟩
          have hb1 := UInt8.toNat_lt b1
          have hb2 := UInt8.toNat_lt b2
          have hb3 := UInt8.toNat_lt b3
          simp only [List.getD_cons_zero, List.getD_cons_succ, List.length_cons] at h2 ⊢
          split
          · rename_i h3
            intro _
            have e : encR (b0.toNat % 8 * 262144 + b1.toNat % 64 * 4096 + b2.toNat % 64 * 64 + b3.toNat % 64) = [b0, b1, b2, b3] := by
              rw [encR_four (by omega) (by omega), ofNat_eq (b := b0) (by omega), ofNat_eq (b := b1) (by omega), ofNat_eq (b := b2) (by omega), ofNat_eq (b := b3) (by omega)]
            refine ⟨by show Sc (b0.toNat % 8 * 262144 + b1.toNat % 64 * 4096 + b2.toNat % 64 * 64 + b3.toNat % 64); unfold Sc; omega, ?_, ?_⟩
            · show b0 :: b1 :: b2 :: b3 :: t = encR (b0.toNat % 8 * 262144 + b1.toNat % 64 * 4096 + b2.toNat % 64 * 64 + b3.toNat % 64) ++ t
              rw [e]; rfl
            · show 4 = (encR (b0.toNat % 8 * 262144 + b1.toNat % 64 * 4096 + b2.toNat % 64 * 64 + b3.toNat % 64)).length
              rw [e]; rfl
          · intro hn; exact absurd ⟨rfl, Nat.le_refl _⟩ hn
        · intro hn; exact absurd ⟨rfl, Nat.le_refl _⟩ hn
/-- a text's signs -/
def encs (ps : List Nat) : List UInt8 := (ps.map encR).flatten
theorem encs_cons (p : Nat) (ps : List Nat) : encs (p :: ps) = encR p ++ encs ps := rfl
theorem encs_snoc (ps : List Nat) (p : Nat) : encs (ps ++ [p]) = encs ps ++ encR p := by simp [encs]
theorem encs_app (a b : List Nat) : encs (a ++ b) = encs a ++ encs b := by simp [encs]
/-- how a text's signs end: all, or the place of the first fault -/
def runesS : Nat → List UInt8 → List Nat × Bool
  | 0, _ => ([], false)
  | f + 1, t => if t = [] then ([], true) else if (dec t).1 = 65533 ∧ (dec t).2 ≤ 1 then ([], false) else
    ((dec t).1 :: (runesS f (t.drop (dec t).2)).1, (runesS f (t.drop (dec t).2)).2)
/-- is a text made of signs? -/
def Good (t : List UInt8) : Prop := ∃ ps, (∀ p ∈ ps, Sc p) ∧ t = encs ps
theorem dec_pos {p : Nat} {t : List UInt8} : encR p ++ t ≠ [] := by
  have h := encR_len p
  intro e
  have := congrArg List.length e
  rw [List.length_append] at this
  simp at this
  rw [this.1] at h
  simp at h
theorem not_bad {p : Nat} (hp : Sc p) (t : List UInt8) : ¬ ((dec (encR p ++ t)).1 = 65533 ∧ (dec (encR p ++ t)).2 ≤ 1) := by
  rw [dec_enc hp]
  rintro ⟨h1, h2⟩
  subst h1
  have : (encR 65533).length = 3 := by decide
  omega
theorem good_cons {p : Nat} {t : List UInt8} (hp : Sc p) : Good (encR p ++ t) ↔ Good t := by
  constructor
  · rintro ⟨ps, hs, h⟩
    cases ps with
    | nil => exact absurd h dec_pos
    | cons q ps =>
      rw [encs_cons] at h
      have h1 := dec_enc hp t
      have h2 := dec_enc (hs q List.mem_cons_self) (encs ps)
      rw [← h, h1] at h2
      obtain ⟨rfl, _⟩ := Prod.mk.inj h2
      exact ⟨ps, fun q hq => hs q (List.mem_cons_of_mem _ hq), List.append_cancel_left h⟩
  · rintro ⟨ps, hs, rfl⟩
    exact ⟨p :: ps, by intro q hq; rcases List.mem_cons.1 hq with rfl | hq; exact hp; exact hs q hq, rfl⟩
theorem encs_inj : ∀ {a b : List Nat}, (∀ p ∈ a, Sc p) → (∀ p ∈ b, Sc p) → encs a = encs b → a = b
  | [], [], _, _, _ => rfl
  | [], q :: b, _, _, h => absurd h.symm dec_pos
  | p :: a, [], _, _, h => absurd h dec_pos
  | p :: a, q :: b, ha, hb, h => by
    rw [encs_cons, encs_cons] at h
    have h1 := dec_enc (ha p List.mem_cons_self) (encs a)
    have h2 := dec_enc (hb q List.mem_cons_self) (encs b)
    rw [← h, h1] at h2
    obtain ⟨rfl, _⟩ := Prod.mk.inj h2
    rw [encs_inj (fun p hp => ha p (List.mem_cons_of_mem _ hp)) (fun p hp => hb p (List.mem_cons_of_mem _ hp)) (List.append_cancel_left h)]
end Go.Proofs.YtffhmjlojmoomaaGreatDoor

namespace Go.Proofs.YtffhmjlojmoomaaGreatDoor
open Go.RowKit
set_option linter.unusedVariables false
set_option linter.unusedSimpArgs false

abbrev Tabs (w : World) : Prop := Lib.Utf8Tabs 0 1 w
theorem Tabs.below {w w' : World} (h : Tabs w) (hb : Below w.heap.size w w') : Tabs w' := Utf8Tabs_below h hb
theorem dg_any (t : List UInt8) (h0 : t ≠ []) (w : World) (hT : Tabs w) : Calls Tryz.prog 50 #[.string ⟨t.toArray⟩] w fun e w' => e = .returned (.tuple #[.int .i32 (dec t).1, .int .i64 (dec t).2]) ∧ Below w.heap.size w w' := by
  have h := Tryz.utf8_DecodeRuneInString ⟨t.toArray⟩ w hT
  have e : Lib.decodeGo ⟨t.toArray⟩ = dec t := by
    unfold Lib.decodeGo dec
    rw [if_neg]
    intro e
    have e2 : t.length = 0 := by simpa [ByteArray.size] using e
    exact h0 (List.eq_nil_of_length_eq_zero e2)
  rw [e] at h
  exact h
theorem good_app {qs : List Nat} (hq : ∀ p ∈ qs, Sc p) (r : List UInt8) : Good (encs qs ++ r) ↔ Good r := by
  induction qs with
  | nil => exact Iff.rfl
  | cons p qs ih =>
    rw [encs_cons, List.append_assoc, good_cons (hq p List.mem_cons_self)]
    exact ih (fun q h => hq q (List.mem_cons_of_mem _ h))
/-- the place where no sign stands -/
def FltAt (t : List UInt8) (a : Int) : Prop := ∃ (qs : List Nat) (r : List UInt8), (∀ p ∈ qs, Sc p) ∧ t = encs qs ++ r ∧ r ≠ [] ∧ ((dec r).1 = 65533 ∧ (dec r).2 ≤ 1) ∧ a = ((encs qs).length : Nat)
theorem bad_not {r : List UInt8} (h0 : r ≠ []) (h : (dec r).1 = 65533 ∧ (dec r).2 ≤ 1) : ¬ Good r := by
  rintro ⟨ps, hs, e⟩
  cases ps with
  | nil => exact h0 e
  | cons p ps =>
    rw [encs_cons] at e
    have := not_bad (hs p List.mem_cons_self) (encs ps)
    rw [← e] at this
    exact this h
set_option maxRecDepth 100000 in
theorem scalar_yes (p : Nat) (hp : Sc p) (w : World) : Calls Tryz.prog 70 #[.int .i32 p] w fun e w' => e = .returned (.bool true) ∧ w = w' := by
  have d0 : decide ((0 : Int) ≤ (p : Int)) = true := decide_eq_true (by omega)
  have d1 : decide ((p : Int) ≤ 1114111) = true := decide_eq_true (by unfold Sc at hp; omega)
  by_cases h : p < 55296
  · have d2 : decide ((p : Int) < 55296) = true := decide_eq_true (by omega)
    clear hp h
    go_enter Tryz.func70, Tryz.ntmps70
    go_wp2
    go_ret
    exact ⟨rfl, rfl⟩
  · have d2 : decide ((p : Int) < 55296) = false := decide_eq_false (by omega)
    have d3 : decide ((57343 : Int) < (p : Int)) = true := decide_eq_true (by unfold Sc at hp; omega)
    clear hp h
    go_enter Tryz.func70, Tryz.ntmps70
    go_wp2
    go_ret
    exact ⟨rfl, rfl⟩
set_option maxHeartbeats 2000000 in
set_option maxRecDepth 100000 in
theorem scan_any (t : List UInt8) (ht : t.length ≤ 1000000000) (w : World) (hT : Hid (Tabs w)) : Calls Tryz.prog 53 #[.string ⟨t.toArray⟩] w fun e w' =>
    ((∃ ps, (∀ p ∈ ps, Sc p) ∧ t = encs ps ∧ e = .returned (.tuple #[.int .i64 (ps.length : Nat), .agg #[.int .i64 0, .int .i64 0]])) ∨ (¬ Good t ∧ ∃ a : Int, FltAt t a ∧ e = .returned (.tuple #[.int .i64 0, .agg #[.int .i64 2, .int .i64 a]]))) ∧ Below w.heap.size w w' := by
  have F := Lib.hid (at_a0 w #[.int .i64 0, .int .i64 0] 26)
  have K := Lib.hid ((Below.refl w.heap.size w).alloc (Nat.le_refl _) (.cells #[.int .i64 0, .int .i64 0] 26))
  have T := Lib.hid (hT.out.below K.out)
  obtain ⟨rb, hrb⟩ : ∃ rb, rb = w.heap.size := ⟨_, rfl⟩
  go_enter Tryz.func53, Tryz.ntmps53
  go_upto_region 1 with (fail)
  generalize w.alloc (.cells #[.int .i64 0, .int .i64 0] 26) = w0 at *
  rw [← hrb] at F
  rw [← hrb]
  have HRB := Lib.hid hrb
  clear hrb
  go_wp2
  go_loopw [4, 5] (fun n i wr => ∃ (qs : List Nat) (r : List UInt8), Hid (∀ p ∈ qs, Sc p) ∧ Hid (t = encs qs ++ r) ∧ qs.length ≤ (encs qs).length ∧ (encs qs).length + r.length = t.length ∧ n = .int .i64 (qs.length : Nat) ∧ i = .int .i64 ((encs qs).length : Nat) ∧ Hid (t.drop (encs qs).length = r) ∧ Hid (wr.heap[rb]? = some (.cells #[.int .i64 0, .int .i64 0] 26 (0, 0))) ∧ Hid (Tabs wr) ∧ Hid (Below w.heap.size w wr)) (fun _ i _ => t.length - (intOf i).toNat)
  case atStart => exact ⟨[], t, Lib.hid (by simp), Lib.hid rfl, Nat.le_refl _, by simp [encs], rfl, rfl, Lib.hid rfl, F, T, K⟩
  case round =>
    clear F T K
    obtain ⟨qs, r, HQ, HE, hql, htl, rfl, rfl, HD, F, T, K⟩ := hrel
    have hws : w.heap.size ≤ rb := by rw [HRB.out]; exact Nat.le_refl _
    by_cases h0 : r = []
    · have hr0 : r.length = 0 := by rw [h0]; rfl
      have g0 : ¬ ((encs qs).length : Int) < t.length := by omega
      have HE2 : Hid (t = encs qs) := Lib.hid (by have h := HE.out; rw [h0, List.append_nil] at h; exact h)
      clear h0
      obtain ⟨f0, f1⟩ := cells2 (F.out); obtain ⟨ff0, ff1⟩ := frees2 (F.out)
      go_wp2
      refine end_tmp_cell (by rfl) rfl (by rfl) (store2 F.out rfl) Tryz.underlying26 rfl (by kernel_rfl) ?_
      exact ⟨.inl ⟨qs, HQ.out, HE2.out, rfl⟩, (K.out.setCell hws _).setCell hws _⟩
    · have hr0 : 0 < r.length := List.length_pos_iff.2 h0
      have g0 : ((encs qs).length : Int) < t.length := by omega
      have DG := Lib.hid (fun w hT => dg_any r h0 w hT)
      have HG := Lib.hid (fun h => dec_good h0 h)
      have HB := Lib.hid (fun h => (show ¬ Good r ∧ FltAt t ((encs qs).length : Nat) from ⟨bad_not h0 h, qs, r, HQ.out, HE.out, h0, h, rfl⟩))
      have eD : List.take (t.length - (encs qs).length) (List.drop (encs qs).length t) = r := by
        rw [HD.out]
        exact List.take_of_length_le (by omega)
      have hne : (encs qs).length ≤ t.length := by omega
      have hp1 : (dec r).1 ≤ 2147483647 := by
        by_cases hb : (dec r).1 = 65533 ∧ (dec r).2 ≤ 1
        · omega
        · have h := (dec_good h0 hb).1
          unfold Sc at h
          omega
      clear h0
      obtain ⟨q, hq⟩ : ∃ q, q = (dec r).1 := ⟨_, rfl⟩
      obtain ⟨m, hm⟩ : ∃ m, m = (dec r).2 := ⟨_, rfl⟩
      rw [← hq, ← hm] at DG HG HB
      rw [← hq] at hp1
      clear hq hm
      have WALK : True := trivial
      by_cases hq : q = 65533
      · have t1 : ((q : Int) == 65533) = true := by rw [hq]; rfl
        by_cases hm : m ≤ 1
        · have t2 : decide ((m : Int) ≤ 1) = true := decide_eq_true (by omega)
          have HN := Lib.hid (HB.out ⟨hq, hm⟩)
          clear hq hm HG HB
          go_wp2_with (go_at_call 50; (with_reducible refine (DG.out _ T.out).mono ?_); rintro e w1 ⟨rfl, hb1⟩; replace F := Lib.hid (block_below F.out hb1); replace K := Lib.hid (nextB K.out hb1); clear hb1; obtain ⟨f0, f1⟩ := cells2 (F.out); obtain ⟨ff0, ff1⟩ := frees2 (F.out))
          refine end_tmp_cell (by rfl) rfl (by rfl) (store2 F.out rfl) Tryz.underlying26 rfl (by kernel_rfl) ?_
          exact ⟨.inr ⟨fun h => HN.out.1 ((good_app HQ.out r).1 (by rw [← HE.out]; exact h)), _, HN.out.2, rfl⟩, (K.out.setCell hws _).setCell hws _⟩
        · have t2 : decide ((m : Int) ≤ 1) = false := decide_eq_false (by omega)
          obtain ⟨s1, s2, s3⟩ := HG.out (fun h => hm h.2)
          clear hq hm
          have hlm : r.length = m + (r.drop m).length := by have h := congrArg List.length s2; rw [List.length_append, ← s3] at h; exact h
          have hm1 := encR_len q
          rw [← s3] at hm1
          obtain ⟨hm1, hm4⟩ := hm1
          have HQ2 : Hid (∀ p ∈ qs ++ [q], Sc p) := Lib.hid (by intro p hp; rw [List.mem_append, List.mem_singleton] at hp; rcases hp with hp | hp; exact HQ.out p hp; rw [hp]; exact s1)
          have hes : encs (qs ++ [q]) = encs qs ++ encR q := encs_snoc qs q
          have hel : (encs (qs ++ [q])).length = (encs qs).length + m := by rw [hes, List.length_append, ← s3]
          have HE2 : Hid (t = encs (qs ++ [q]) ++ r.drop m) := Lib.hid (by rw [hes, List.append_assoc, ← s2]; exact HE.out)
          have HD2 : Hid (t.drop (encs (qs ++ [q])).length = r.drop m) := Lib.hid (by rw [hel, ← List.drop_drop, HD.out])
          have HEL := Lib.hid hel
          clear s1 s2 s3 hes hel HG HB HQ HE HD
          go_wp2_with (go_at_call 50; (with_reducible refine (DG.out _ T.out).mono ?_); rintro e w1 ⟨rfl, hb1⟩; replace F := Lib.hid (block_below F.out hb1); replace T := Lib.hid (T.out.below hb1); replace K := Lib.hid (nextB K.out hb1); clear hb1)
          exact ⟨⟨qs ++ [q], r.drop m, HQ2, HE2, by rw [HEL.out, List.length_append]; simp; omega, by rw [HEL.out]; omega, by rw [List.length_append]; simp, by rw [HEL.out]; simp, HD2, F, T, K⟩, by simp [intOf]; omega⟩
      · have t1 : ((q : Int) == 65533) = false := by simp only [beq_eq_false_iff_ne, ne_eq]; omega
        obtain ⟨s1, s2, s3⟩ := HG.out (fun h => hq h.1)
        clear hq
        have hlm : r.length = m + (r.drop m).length := by have h := congrArg List.length s2; rw [List.length_append, ← s3] at h; exact h
        have hm1 := encR_len q
        rw [← s3] at hm1
        obtain ⟨hm1, hm4⟩ := hm1
        have HQ2 : Hid (∀ p ∈ qs ++ [q], Sc p) := Lib.hid (by intro p hp; rw [List.mem_append, List.mem_singleton] at hp; rcases hp with hp | hp; exact HQ.out p hp; rw [hp]; exact s1)
        have hes : encs (qs ++ [q]) = encs qs ++ encR q := encs_snoc qs q
        have hel : (encs (qs ++ [q])).length = (encs qs).length + m := by rw [hes, List.length_append, ← s3]
        have HE2 : Hid (t = encs (qs ++ [q]) ++ r.drop m) := Lib.hid (by rw [hes, List.append_assoc, ← s2]; exact HE.out)
        have HD2 : Hid (t.drop (encs (qs ++ [q])).length = r.drop m) := Lib.hid (by rw [hel, ← List.drop_drop, HD.out])
        have HEL := Lib.hid hel
        clear s1 s2 s3 hes hel HG HB HQ HE HD
        go_wp2_with (go_at_call 50; (with_reducible refine (DG.out _ T.out).mono ?_); rintro e w1 ⟨rfl, hb1⟩; replace F := Lib.hid (block_below F.out hb1); replace T := Lib.hid (T.out.below hb1); replace K := Lib.hid (nextB K.out hb1); clear hb1)
        exact ⟨⟨qs ++ [q], r.drop m, HQ2, HE2, by rw [HEL.out, List.length_append]; simp; omega, by rw [HEL.out]; omega, by rw [List.length_append]; simp, by rw [HEL.out]; simp, HD2, F, T, K⟩, by simp [intOf]; omega⟩
theorem scan_two (t : List UInt8) (ht : t.length ≤ 1000000000) (w : World) (hT : Hid (Tabs w)) : Calls Tryz.prog 53 #[.string ⟨t.toArray⟩] w fun e w' =>
    ∃ n c a : Int, e = .returned (.tuple #[.int .i64 n, .agg #[.int .i64 c, .int .i64 a]]) ∧ Hid ((Good t ∧ c = 0 ∧ a = 0) ∨ (¬ Good t ∧ c = 2 ∧ FltAt t a)) ∧ Below w.heap.size w w' :=
  (scan_any t ht w hT).mono fun e w' ⟨hr, hb⟩ => by
    rcases hr with ⟨ps, h1, h2, h3⟩ | ⟨h1, a, hf, h3⟩
    · exact ⟨_, _, _, h3, Lib.hid (.inl ⟨⟨ps, h1, h2⟩, rfl, rfl⟩), hb⟩
    · exact ⟨_, _, _, h3, Lib.hid (.inr ⟨h1, rfl, hf⟩), hb⟩
set_option maxRecDepth 100000 in
theorem pcheck_any (t : List UInt8) (ht : t.length ≤ 1000000000) (w : World) (hT : Hid (Tabs w)) : Calls Tryz.prog 21 #[.string ⟨t.toArray⟩] w fun e w' =>
    ((Good t ∧ e = .returned (.agg #[.int .i64 0, .int .i64 0])) ∨ (¬ Good t ∧ ∃ a : Int, FltAt t a ∧ e = .returned (.agg #[.int .i64 2, .int .i64 a]))) ∧ Below w.heap.size w w' := by
  have SC := Lib.hid (fun w hT => scan_two t ht w hT)
  have F := Lib.hid (at_a0 w #[.int .i64 0, .int .i64 0] 26)
  have K := Lib.hid ((Below.refl w.heap.size w).alloc (Nat.le_refl _) (.cells #[.int .i64 0, .int .i64 0] 26))
  have T := Lib.hid (hT.out.below K.out)
  obtain ⟨rb, hrb⟩ : ∃ rb, rb = w.heap.size := ⟨_, rfl⟩
  go_enter Tryz.func21, Tryz.ntmps21
  go_upto_region 1 with (fail)
  generalize w.alloc (.cells #[.int .i64 0, .int .i64 0] 26) = w0 at *
  rw [← hrb] at F
  rw [← hrb]
  have HRB := Lib.hid hrb
  clear hrb
  have hws : w.heap.size ≤ rb := by rw [HRB.out]; exact Nat.le_refl _
  have HWS := Lib.hid hws
  clear hws
  go_wp2_with (go_at_call 53; (with_reducible refine (SC.out _ T).mono ?_); rintro e w1 ⟨n, c, a, rfl, HH, hb1⟩; replace F := Lib.hid (block_below F.out hb1); replace K := Lib.hid (nextB K.out hb1); clear hb1; obtain ⟨f0, f1⟩ := cells2 (F.out); obtain ⟨ff0, ff1⟩ := frees2 (F.out); have hfl := (Array.getElem?_eq_some_iff.1 F.out).1)
  have hsz : ((w1.setCell ⟨rb, 0, none⟩ (.int .i64 c)).setCell ⟨rb, 1, none⟩ (.int .i64 a)).heap.size = w1.heap.size := by simp [World.setCell]
  have F2 := (heap_alloc_old ((w1.setCell ⟨rb, 0, none⟩ (.int .i64 c)).setCell ⟨rb, 1, none⟩ (.int .i64 a)) (.cells #[.int .i64 c, .int .i64 a] 26) (r := rb) (by rw [hsz]; exact hfl)).trans (store2 F.out rfl)
  have K9 := Below.setCell (p := ⟨rb, 1, none⟩) (Below.setCell (p := ⟨rb, 0, none⟩) K.out HWS.out (.int .i64 c)) HWS.out (.int .i64 a)
  refine end_cell (by rfl) rfl (by rfl) F2 Tryz.underlying26 rfl (by kernel_rfl) ?_
  refine ⟨?_, K9.alloc K9.size _⟩
  rcases HH.out with ⟨h1, rfl, rfl⟩ | ⟨h1, rfl, hf⟩
  · exact .inl ⟨h1, rfl⟩
  · exact .inr ⟨h1, _, hf, rfl⟩
set_option maxRecDepth 100000 in
theorem pcount_any (ps : List Nat) (hp : Hid (∀ p ∈ ps, Sc p)) (ht : (encs ps).length ≤ 1000000000) (w : World) (hT : Hid (Tabs w)) : Calls Tryz.prog 46 #[.string ⟨(encs ps).toArray⟩] w fun e w' =>
    e = .returned (.int .i64 (ps.length : Nat)) ∧ Below w.heap.size w w' := by
  have SC : Hid (∀ w, Hid (Tabs w) → Calls Tryz.prog 53 #[.string ⟨(encs ps).toArray⟩] w fun e w' => e = .returned (.tuple #[.int .i64 (ps.length : Nat), .agg #[.int .i64 0, .int .i64 0]]) ∧ Below w.heap.size w w') := Lib.hid (fun w hT => (scan_any (encs ps) ht w hT).mono fun e w' ⟨hr, hb⟩ => by
    rcases hr with ⟨qs, h1, h2, h3⟩ | ⟨h1, _⟩
    · have := encs_inj hp.out h1 h2
      subst this
      exact ⟨h3, hb⟩
    · exact absurd ⟨ps, hp.out, rfl⟩ h1)
  go_enter Tryz.func46, Tryz.ntmps46
  go_wp2_with (go_at_call 53; (with_reducible refine (SC.out _ hT).mono ?_); rintro e w1 ⟨rfl, hb1⟩; have K := Lib.hid hb1; clear hb1)
  go_ret
  exact ⟨rfl, K.out.alloc K.out.size _⟩
end Go.Proofs.YtffhmjlojmoomaaGreatDoor
