/- Layer 13 (frame): a frame as plain data; flags, names, walked. -/
import Derived.Test.YtmnmonmbdgedbaaSync
import Derived.Test.YtmnmonmbdgedbaaLow
import Derived.Test.YtmnmonmbdgedbaaOcx
import Derived.Deep.DeepCutAuto
namespace Go.Proofs.Ytmnmonmbdgedbaa
open Go.RowKit
set_option linter.unusedVariables false

/-- a frame: its name, its two flags, its group, its body, its place -/
structure Fr where
  id : List UInt8
  st : UInt8
  fm : UInt8
  gr : UInt8
  bo : List UInt8
  pl : Int
def frR (f : Fr) : List Value := [.string ⟨f.id.toArray⟩, .int .u8 f.st.toNat, .int .u8 f.fm.toNat, .int .u8 f.gr.toNat, .string ⟨f.bo.toArray⟩, .int .i64 f.pl]
def frV (f : Fr) : Value := .agg (frR f).toArray
def hdV (id : List UInt8) (st fm : UInt8) : Value := .agg #[.string ⟨id.toArray⟩, .int .u8 st.toNat, .int .u8 fm.toNat]
/-- has a number some of the bits? -/
def tb (c : UInt8) (k : Nat) : Bool := (((c.toNat &&& k : Nat) : Int) != 0)
def locked (v : Int) (fm : UInt8) : Bool := if v = 3 then tb fm 192 else if v = 4 then tb fm 12 else false
def grouped (v : Int) (fm : UInt8) : Bool := if locked v fm = true then false else if v = 3 then tb fm 32 else if v = 4 then tb fm 64 else false
def measured (v : Int) (fm : UInt8) : Bool := if v = 4 then (if locked v fm = true then false else tb fm 1) else false
def spreadB (v : Int) (fm : UInt8) : Bool := if v = 4 then (if locked v fm = true then false else tb fm 2) else false
def letters (v : Int) : Nat := if v = 2 then 3 else if v = 3 then 4 else if v = 4 then 4 else 0
theorem and_bits (c : UInt8) (k : Nat) (hk : k < 256) : bits .and .u8 (c.toNat : Int) (k : Int) = ((c.toNat &&& k : Nat) : Int) := by
  have hc := UInt8.toNat_lt c
  have hle : c.toNat &&& k ≤ k := Nat.and_le_right
  have e : (BitVec.ofInt IntKind.u8.bits (c.toNat : Int) &&& BitVec.ofInt IntKind.u8.bits (k : Int)).toNat = c.toNat &&& k := by
    rw [BitVec.toNat_and]
    show (BitVec.ofInt 8 (c.toNat : Int)).toNat &&& (BitVec.ofInt 8 (k : Int)).toNat = _
    rw [BitVec.ofInt_natCast, BitVec.ofInt_natCast, BitVec.toNat_ofNat, BitVec.toNat_ofNat, Nat.mod_eq_of_lt hc, Nat.mod_eq_of_lt hk]
  simp only [bits, e]
  generalize c.toNat &&& k = z at *
  simp only [IntKind.wrap, IntKind.bits, IntKind.signed]
  simp
  omega
theorem tb_ret (c : UInt8) (k : Nat) (hk : k < 256) : Ending.returned (Value.bool (bits .and .u8 (c.toNat : Int) (k : Int) != 0)) = Ending.returned (.bool (tb c k)) := by
  rw [and_bits c k hk]; rfl
theorem no_case {v : Int} {k : Int} (h : ¬ v = k) : (v == k) = false := by simpa using h

set_option maxRecDepth 100000 in
theorem locked_any (v : Int) (id : List UInt8) (st fm : UInt8) (w : World) : Calls Try.prog 66 #[hdV id st fm, .int .i64 v] w fun e w' => e = .returned (.bool (locked v fm)) ∧ Below w.heap.size w w' := by
  unfold hdV locked
  by_cases h3 : v = 3
  · subst h3
    rw [if_pos rfl]
    go_enter Try.func66, Try.ntmps66
    go_wp2
    go_ret
    exact ⟨tb_ret fm 192 (by decide), (Below.refl _ _).alloc (Nat.le_refl _) _⟩
  · rw [if_neg h3]
    by_cases h4 : v = 4
    · subst h4
      rw [if_pos rfl]
      go_enter Try.func66, Try.ntmps66
      go_wp2
      go_ret
      exact ⟨tb_ret fm 12 (by decide), (Below.refl _ _).alloc (Nat.le_refl _) _⟩
    · rw [if_neg h4]
      have t3 := no_case h3
      have t4 := no_case h4
      clear h3 h4
      go_enter Try.func66, Try.ntmps66
      go_wp2
      go_ret
      exact ⟨rfl, (Below.refl _ _).alloc (Nat.le_refl _) _⟩
set_option maxRecDepth 100000 in
theorem grouped_any (v : Int) (id : List UInt8) (st fm : UInt8) (w : World) : Calls Try.prog 108 #[hdV id st fm, .int .i64 v] w fun e w' => e = .returned (.bool (grouped v fm)) ∧ Below w.heap.size w w' := by
  have LK := Lib.hid (fun w => locked_any v id st fm w)
  unfold grouped
  generalize locked v fm = lk at *
  unfold hdV at *
  rcases lk with _ | _
  · rw [if_neg (by decide)]
    by_cases h3 : v = 3
    · subst h3
      rw [if_pos rfl]
      go_enter Try.func108, Try.ntmps108
      go_wp2_with (go_at_call 66; (with_reducible refine (LK.out _).mono ?_); rintro e w1 ⟨rfl, hb1⟩; have X1 := block_below (at_a0 w _ _) hb1; obtain ⟨a0, a1, a2⟩ := cells3 (X1); have K1 := Lib.hid (below_a1 hb1); clear hb1 X1)
      go_ret
      exact ⟨tb_ret fm 32 (by decide), K1.out⟩
    · rw [if_neg h3]
      by_cases h4 : v = 4
      · subst h4
        rw [if_pos rfl]
        go_enter Try.func108, Try.ntmps108
        go_wp2_with (go_at_call 66; (with_reducible refine (LK.out _).mono ?_); rintro e w1 ⟨rfl, hb1⟩; have X1 := block_below (at_a0 w _ _) hb1; obtain ⟨a0, a1, a2⟩ := cells3 (X1); have K1 := Lib.hid (below_a1 hb1); clear hb1 X1)
        go_ret
        exact ⟨tb_ret fm 64 (by decide), K1.out⟩
      · rw [if_neg h4]
        have t3 := no_case h3
        have t4 := no_case h4
        clear h3 h4
        go_enter Try.func108, Try.ntmps108
        go_wp2_with (go_at_call 66; (with_reducible refine (LK.out _).mono ?_); rintro e w1 ⟨rfl, hb1⟩; have K1 := Lib.hid (below_a1 hb1); clear hb1)
        go_ret
        exact ⟨rfl, K1.out⟩
  · rw [if_pos rfl]
    go_enter Try.func108, Try.ntmps108
    go_wp2_with (go_at_call 66; (with_reducible refine (LK.out _).mono ?_); rintro e w1 ⟨rfl, hb1⟩; have K1 := Lib.hid (below_a1 hb1); clear hb1)
    go_ret
    exact ⟨rfl, K1.out⟩
set_option maxRecDepth 100000 in
theorem measured_any (v : Int) (id : List UInt8) (st fm : UInt8) (w : World) : Calls Try.prog 122 #[hdV id st fm, .int .i64 v] w fun e w' => e = .returned (.bool (measured v fm)) ∧ Below w.heap.size w w' := by
  have LK := Lib.hid (fun w => locked_any v id st fm w)
  unfold measured
  by_cases h4 : v = 4
  · rw [if_pos h4]
    generalize locked v fm = lk at *
    subst h4
    unfold hdV at *
    rcases lk with _ | _
    · rw [if_neg (by decide)]
      go_enter Try.func122, Try.ntmps122
      go_wp2_with (go_at_call 66; (with_reducible refine (LK.out _).mono ?_); rintro e w1 ⟨rfl, hb1⟩; have X1 := block_below (at_a0 w _ _) hb1; obtain ⟨a0, a1, a2⟩ := cells3 (X1); have K1 := Lib.hid (below_a1 hb1); clear hb1 X1)
      go_ret
      exact ⟨tb_ret fm 1 (by decide), K1.out⟩
    · rw [if_pos rfl]
      go_enter Try.func122, Try.ntmps122
      go_wp2_with (go_at_call 66; (with_reducible refine (LK.out _).mono ?_); rintro e w1 ⟨rfl, hb1⟩; have K1 := Lib.hid (below_a1 hb1); clear hb1)
      go_ret
      exact ⟨rfl, K1.out⟩
  · rw [if_neg h4]
    have t4 := no_case h4
    unfold hdV
    clear h4 LK
    go_enter Try.func122, Try.ntmps122
    go_wp2
    go_ret
    exact ⟨rfl, (Below.refl _ _).alloc (Nat.le_refl _) _⟩
set_option maxRecDepth 100000 in
theorem spread_any (v : Int) (id : List UInt8) (st fm : UInt8) (w : World) : Calls Try.prog 24 #[hdV id st fm, .int .i64 v] w fun e w' => e = .returned (.bool (spreadB v fm)) ∧ Below w.heap.size w w' := by
  have LK := Lib.hid (fun w => locked_any v id st fm w)
  unfold spreadB
  by_cases h4 : v = 4
  · rw [if_pos h4]
    generalize locked v fm = lk at *
    subst h4
    unfold hdV at *
    rcases lk with _ | _
    · rw [if_neg (by decide)]
      go_enter Try.func24, Try.ntmps24
      go_wp2_with (go_at_call 66; (with_reducible refine (LK.out _).mono ?_); rintro e w1 ⟨rfl, hb1⟩; have X1 := block_below (at_a0 w _ _) hb1; obtain ⟨a0, a1, a2⟩ := cells3 (X1); have K1 := Lib.hid (below_a1 hb1); clear hb1 X1)
      go_ret
      exact ⟨tb_ret fm 2 (by decide), K1.out⟩
    · rw [if_pos rfl]
      go_enter Try.func24, Try.ntmps24
      go_wp2_with (go_at_call 66; (with_reducible refine (LK.out _).mono ?_); rintro e w1 ⟨rfl, hb1⟩; have K1 := Lib.hid (below_a1 hb1); clear hb1)
      go_ret
      exact ⟨rfl, K1.out⟩
  · rw [if_neg h4]
    have t4 := no_case h4
    unfold hdV
    clear h4 LK
    go_enter Try.func24, Try.ntmps24
    go_wp2
    go_ret
    exact ⟨rfl, (Below.refl _ _).alloc (Nat.le_refl _) _⟩
set_option maxRecDepth 100000 in
theorem letters_any (v : Int) (w : World) : Calls Try.prog 75 #[.int .i64 v] w fun e w' => e = .returned (.int .i64 (letters v : Nat)) ∧ w = w' := by
  unfold letters
  by_cases h2 : v = 2
  · subst h2
    rw [if_pos rfl]
    go_enter Try.func75, Try.ntmps75
    go_wp2
    go_ret
    exact ⟨rfl, rfl⟩
  · rw [if_neg h2]
    have t2 := no_case h2
    by_cases h3 : v = 3
    · subst h3
      rw [if_pos rfl]
      clear h2
      go_enter Try.func75, Try.ntmps75
      go_wp2
      go_ret
      exact ⟨rfl, rfl⟩
    · rw [if_neg h3]
      have t3 := no_case h3
      by_cases h4 : v = 4
      · subst h4
        rw [if_pos rfl]
        clear h2 h3
        go_enter Try.func75, Try.ntmps75
        go_wp2
        go_ret
        exact ⟨rfl, rfl⟩
      · rw [if_neg h4]
        have t4 := no_case h4
        clear h2 h3 h4
        go_enter Try.func75, Try.ntmps75
        go_wp2
        go_ret
        exact ⟨rfl, rfl⟩
/-- may a byte not stand in a name? -/
def badC (c : UInt8) : Bool := (decide ((c.toNat : Int) < 65) || decide ((90 : Int) < c.toNat)) && (decide ((c.toNat : Int) < 48) || decide ((57 : Int) < c.toNat))
def wrongN (id : List UInt8) : Nat := id.findIdx badC
set_option maxHeartbeats 1000000 in
set_option maxRecDepth 100000 in
theorem wrong_any (id : List UInt8) (w : World) (hl : id.length ≤ 1000000000) : Calls Try.prog 124 #[.string ⟨id.toArray⟩] w fun e w' => e = .returned (.int .i64 (wrongN id : Nat)) ∧ w = w' := by
  go_enter Try.func124, Try.ntmps124
  go_wp2
  go_loop [7] (fun i => ∃ (j : Nat), j ≤ id.length ∧ i = .int .i64 j ∧ Hid (wrongN id = j + wrongN (id.drop j))) (fun i => id.length - (intOf i).toNat)
  case atStart => exact ⟨0, by omega, rfl, Lib.hid (by simp)⟩
  case round =>
    obtain ⟨j, hj, rfl, HW⟩ := hrel
    by_cases hlt : j < id.length
    · have h0 : (j : Int) < id.length := by omega
      have hW := HW.out
      rw [drop_cons id j hlt] at hW
      unfold wrongN at hW
      rw [List.findIdx_cons] at hW
      have hb := byte_le id[j]
      rcases hbc : badC id[j] with _ | _
      · rw [hbc] at hW
        have HW := Lib.hid (show wrongN id = (j + 1) + wrongN (id.drop (j + 1)) by unfold wrongN; rw [hW]; simp; omega)
        clear hW
        have hbc' : ¬ (((id[j].toNat : Int) < 65 ∨ (90 : Int) < id[j].toNat) ∧ ((id[j].toNat : Int) < 48 ∨ (57 : Int) < id[j].toNat)) := by
          intro h
          have : badC id[j] = true := by unfold badC; simpa using h
          rw [hbc] at this; cases this
        clear hbc
        by_cases h65 : (id[j].toNat : Int) < 65
        · have h48 : ¬ (id[j].toNat : Int) < 48 := fun h => hbc' ⟨.inl h65, .inl h⟩
          have h57 : ¬ (57 : Int) < id[j].toNat := fun h => hbc' ⟨.inl h65, .inr h⟩
          clear hbc'
          go_wp2
          go_round
          case rel => exact ⟨j + 1, by omega, by go_num, HW⟩
          case measure => simp [intOf]; omega
        · by_cases h90 : (90 : Int) < id[j].toNat
          · exfalso
            exact hbc' ⟨.inr h90, .inr (by omega)⟩
          · clear hbc'
            go_wp2
            go_round
            case rel => exact ⟨j + 1, by omega, by go_num, HW⟩
            case measure => simp [intOf]; omega
      · rw [hbc] at hW
        have HW := Lib.hid (show wrongN id = j by unfold wrongN; rw [hW]; simp)
        clear hW
        have hbc' : (((id[j].toNat : Int) < 65 ∨ (90 : Int) < id[j].toNat) ∧ ((id[j].toNat : Int) < 48 ∨ (57 : Int) < id[j].toNat)) := by
          unfold badC at hbc
          simpa using hbc
        clear hbc
        by_cases h65 : (id[j].toNat : Int) < 65
        · by_cases h48 : (id[j].toNat : Int) < 48
          · clear hbc'
            go_wp2
            go_ret
            exact ⟨ret_int (by rw [HW.out]), rfl⟩
          · have h57 : (57 : Int) < id[j].toNat := hbc'.2.resolve_left h48
            clear hbc'
            go_wp2
            go_ret
            exact ⟨ret_int (by rw [HW.out]), rfl⟩
        · have h90 : (90 : Int) < id[j].toNat := hbc'.1.resolve_left h65
          have h48 : ¬ (id[j].toNat : Int) < 48 := by omega
          have h57 : (57 : Int) < id[j].toNat := by omega
          clear hbc'
          go_wp2
          go_ret
          exact ⟨ret_int (by rw [HW.out]), rfl⟩
    · have h0 : ¬ (j : Int) < id.length := by omega
      go_wp2
      go_ret
      have := HW.out
      rw [List.drop_eq_nil_of_le (by omega)] at this
      exact ⟨ret_int (by rw [this]; simp [wrongN]; omega), rfl⟩
def named (v : Int) (id : List UInt8) : Bool := decide (0 < letters v) && (decide (id.length = letters v) && decide (wrongN id = letters v))
set_option maxRecDepth 100000 in
theorem named_any (v : Int) (id : List UInt8) (w : World) (hl : id.length ≤ 1000000000) : Calls Try.prog 109 #[.int .i64 v, .string ⟨id.toArray⟩] w fun e w' => e = .returned (.bool (named v id)) ∧ w = w' := by
  have LE := Lib.hid (fun w => letters_any v w)
  have WR := Lib.hid (fun w => wrong_any id w hl)
  unfold named
  generalize letters v = n at *
  generalize wrongN id = m at *
  by_cases h1 : 0 < n
  · have g1 : (0 : Int) < n := by omega
    by_cases h2 : id.length = n
    · have t2 : ((id.length : Int) == (n : Int)) = true := by simp; omega
      by_cases h3 : m = n
      · have t3 : ((m : Int) == (n : Int)) = true := by simp; omega
        have e : (decide (0 < n) && (decide (id.length = n) && decide (m = n))) = true := by simp [h1, h2, h3]
        rw [e]
        clear h2 h3 e
        go_enter Try.func109, Try.ntmps109
        go_wp2_with (first | (go_at_call 75; (with_reducible refine (LE.out _).mono ?_); rintro e w1 ⟨rfl, rfl⟩) | (go_at_call 124; (with_reducible refine (WR.out _).mono ?_); rintro e w1 ⟨rfl, rfl⟩))
        go_ret
        exact ⟨rfl, rfl⟩
      · have t3 : ((m : Int) == (n : Int)) = false := by simp; omega
        have e : (decide (0 < n) && (decide (id.length = n) && decide (m = n))) = false := by simp [h1, h2, h3]
        rw [e]
        clear h2 h3 e
        go_enter Try.func109, Try.ntmps109
        go_wp2_with (first | (go_at_call 75; (with_reducible refine (LE.out _).mono ?_); rintro e w1 ⟨rfl, rfl⟩) | (go_at_call 124; (with_reducible refine (WR.out _).mono ?_); rintro e w1 ⟨rfl, rfl⟩))
        go_ret
        exact ⟨rfl, rfl⟩
    · have t2 : ((id.length : Int) == (n : Int)) = false := by simp; omega
      have e : (decide (0 < n) && (decide (id.length = n) && decide (m = n))) = false := by simp [h1, h2]
      rw [e]
      clear h2 e
      go_enter Try.func109, Try.ntmps109
      go_wp2_with (first | (go_at_call 75; (with_reducible refine (LE.out _).mono ?_); rintro e w1 ⟨rfl, rfl⟩) | (go_at_call 124; (with_reducible refine (WR.out _).mono ?_); rintro e w1 ⟨rfl, rfl⟩))
      go_ret
      exact ⟨rfl, rfl⟩
  · have g1 : ¬ (0 : Int) < n := by omega
    have e : (decide (0 < n) && (decide (id.length = n) && decide (m = n))) = false := by simp [h1]
    rw [e]
    clear e
    go_enter Try.func109, Try.ntmps109
    go_wp2_with (first | (go_at_call 75; (with_reducible refine (LE.out _).mono ?_); rintro e w1 ⟨rfl, rfl⟩) | (go_at_call 124; (with_reducible refine (WR.out _).mono ?_); rintro e w1 ⟨rfl, rfl⟩))
    go_ret
    exact ⟨rfl, rfl⟩
end Go.Proofs.Ytmnmonmbdgedbaa
