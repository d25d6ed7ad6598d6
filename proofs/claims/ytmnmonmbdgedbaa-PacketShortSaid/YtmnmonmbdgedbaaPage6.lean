/- Layer 17 (page): the document's functions, walked; Has, Open. -/
import Derived.Test.YtmnmonmbdgedbaaPage5
namespace Go.Proofs.Ytmnmonmbdgedbaa
open Go.RowKit
set_option linter.unusedVariables false

/-- a page as the document has it -/
def rgR (p : Pg) : List Value := [.int .i64 p.fl.toNat, .int .u64 p.po, .int .u64 p.se, .int .u64 p.nu, .string ⟨p.la.toArray⟩, .string ⟨p.bo.toArray⟩]
def rgV (p : Pg) : Value := .agg (rgR p).toArray

set_option maxHeartbeats 1000000 in
set_option maxRecDepth 100000 in
theorem rlong_any (l : List UInt8) (w : World) (hl : l.length ≤ 1000000000) : Calls Try.prog 35 #[.string ⟨l.toArray⟩] w fun e w' => e = .returned (.int .i64 (lacesL l)) ∧ w = w' := by
  go_enter Try.func35, Try.ntmps35
  go_wp2
  go_loop [3, 4] (fun z i => ∃ (k : Nat), k ≤ l.length ∧ i = .int .i64 k ∧ z = .int .i64 (lacesL (l.take k)) ∧ lacesL (l.take k) ≤ 255 * k) (fun _ i => l.length - (intOf i).toNat)
  case atStart => exact ⟨0, by omega, rfl, rfl, by simp [lacesL]⟩
  case round =>
    obtain ⟨k, hk, rfl, rfl, hb⟩ := hrel
    by_cases hlt : k < l.length
    · have h0 : (k : Int) < l.length := by omega
      have ht := laces_take l k hlt
      have HT := Lib.hid ht
      have hc := byte_le l[k]
      clear ht
      generalize lacesL (l.take k) = x at *
      go_wp2
      go_round
      case rel => exact ⟨k + 1, by omega, by go_num, by rw [HT.out]; go_num, by rw [HT.out]; omega⟩
      case measure => simp [intOf]; omega
    · have h0 : ¬ (k : Int) < l.length := by omega
      go_wp2
      go_ret
      rw [List.take_of_length_le (by omega)]
      exact ⟨rfl, rfl⟩

set_option maxHeartbeats 1000000 in
set_option maxRecDepth 100000 in
theorem rcheck_any (p : Pg) (w : World) (hl : p.la.length ≤ 1000000000) : Calls Try.prog 83 #[rgV p] w fun e w' => e = .returned (.int .i64 (checkC p)) ∧ Below w.heap.size w w' := by
  have CT := Lib.hid (fun w => rlong_any p.la w hl)
  have K0 : Hid (Below w.heap.size w (w.alloc (.cells #[.int .i64 p.fl.toNat, .int .u64 p.po, .int .u64 p.se, .int .u64 p.nu, .string ⟨p.la.toArray⟩, .string ⟨p.bo.toArray⟩] 81))) := Lib.hid ((Below.refl _ _).alloc (Nat.le_refl _) _)
  unfold rgV rgR checkC
  by_cases h1 : (255 : Int) < p.la.length
  · rw [if_pos (by omega)]
    go_enter Try.func83, Try.ntmps83
    go_wp2
    go_ret
    exact ⟨rfl, K0.out⟩
  · rw [if_neg (by omega)]
    by_cases h2 : p.bo.length = lacesL p.la
    · rw [if_neg (by simpa using h2)]
      have t1 : (((lacesL p.la : Nat) : Int) != (p.bo.length : Nat)) = false := by simp; omega
      clear h2
      go_enter Try.func83, Try.ntmps83
      go_wp2
      go_quiet ((go_at_call 35; exact Calls.quiet_of_same ((CT.out _).mono fun e w' ⟨h1, h2⟩ => ⟨h1, h2.symm⟩)))
      go_wp2
      go_ret
      exact ⟨rfl, K0.out.os, K0.out.tape, K0.out.output, K0.out.size, K0.out.block⟩
    · rw [if_pos h2]
      have t1 : (((lacesL p.la : Nat) : Int) != (p.bo.length : Nat)) = true := by simp; omega
      clear h2
      go_enter Try.func83, Try.ntmps83
      go_wp2
      go_quiet ((go_at_call 35; exact Calls.quiet_of_same ((CT.out _).mono fun e w' ⟨h1, h2⟩ => ⟨h1, h2.symm⟩)))
      go_wp2
      go_ret
      exact ⟨rfl, K0.out.os, K0.out.tape, K0.out.output, K0.out.size, K0.out.block⟩

set_option maxHeartbeats 1000000 in
set_option maxRecDepth 100000 in
theorem of_any (p : Pg) (w : World) (hp : p.Ok) : Calls Try.prog 43 #[pgV p] w fun e w' => e = .returned (rgV p) ∧ Below w.heap.size w w' := by
  unfold pgV pgR rgV rgR
  have hfl := byte_le p.fl
  have h2 : p.se ≤ 4294967295 := by have := hp.2.1; omega
  have h3 : p.nu ≤ 4294967295 := by have := hp.2.2; omega
  clear hp
  go_enter Try.func43, Try.ntmps43
  go_wp2
  exact end_cell rfl rfl rfl (at_a2 _ _ _ _) Try.underlying81 rfl (by kernel_rfl) ⟨rfl, ((Below.refl _ _).alloc (Nat.le_refl _) _).alloc (by simp) _⟩

theorem fault09_any (c q : Int) (w : World) : Calls Try.prog 27 #[.int .i64 c, .int .i64 q] w fun e w' => e = .returned (.agg #[.int .i64 c, .int .i64 q]) ∧ Below w.heap.size w w' := by
  go_enter Try.func27, Try.ntmps27
  go_wp2
  exact end_cell rfl rfl rfl (at_a0 _ _ _) Try.underlying31 rfl (by kernel_rfl) ⟨rfl, (Below.refl _ _).alloc (Nat.le_refl _) _⟩

theorem u8_and (a b : UInt8) : bits .and .u8 (a.toNat : Int) (b.toNat : Int) = ((a &&& b).toNat : Int) := by
  have h := UInt8.toNat_lt (a &&& b)
  have ha := UInt8.toNat_lt a
  have hb := UInt8.toNat_lt b
  have e : (BitVec.ofInt IntKind.u8.bits (a.toNat : Int) &&& BitVec.ofInt IntKind.u8.bits (b.toNat : Int)).toNat = (a &&& b).toNat := by
    rw [BitVec.toNat_and, UInt8.toNat_and]
    show (BitVec.ofInt 8 (a.toNat : Int)).toNat &&& (BitVec.ofInt 8 (b.toNat : Int)).toNat = _
    rw [BitVec.ofInt_natCast, BitVec.ofInt_natCast, BitVec.toNat_ofNat, BitVec.toNat_ofNat, Nat.mod_eq_of_lt ha, Nat.mod_eq_of_lt hb]
  simp only [bits, e]
  generalize (a &&& b).toNat = z at *
  simp only [IntKind.wrap, IntKind.bits, IntKind.signed]
  simp
  omega
theorem u8_or (a b : UInt8) : bits .or .u8 (a.toNat : Int) (b.toNat : Int) = ((a ||| b).toNat : Int) := by
  have h := UInt8.toNat_lt (a ||| b)
  have ha := UInt8.toNat_lt a
  have hb := UInt8.toNat_lt b
  have e : (BitVec.ofInt IntKind.u8.bits (a.toNat : Int) ||| BitVec.ofInt IntKind.u8.bits (b.toNat : Int)).toNat = (a ||| b).toNat := by
    rw [BitVec.toNat_or, UInt8.toNat_or]
    show (BitVec.ofInt 8 (a.toNat : Int)).toNat ||| (BitVec.ofInt 8 (b.toNat : Int)).toNat = _
    rw [BitVec.ofInt_natCast, BitVec.ofInt_natCast, BitVec.toNat_ofNat, BitVec.toNat_ofNat, Nat.mod_eq_of_lt ha, Nat.mod_eq_of_lt hb]
  simp only [bits, e]
  generalize (a ||| b).toNat = z at *
  simp only [IntKind.wrap, IntKind.bits, IntKind.signed]
  simp
  omega
def hasB (fl b : UInt8) : Bool := fl &&& b == b
theorem has_or (fl b : UInt8) : (fl ||| b == fl) = hasB fl b := by
  unfold hasB
  rw [Bool.eq_iff_iff, beq_iff_eq, beq_iff_eq, ← UInt8.toBitVec_inj, ← UInt8.toBitVec_inj, UInt8.toBitVec_and, UInt8.toBitVec_or]
  generalize fl.toBitVec = x
  generalize b.toBitVec = y
  constructor
  · intro h
    rw [← h]
    ext i hi
    simp only [BitVec.getElem_and, BitVec.getElem_or]
    cases x[i] <;> cases y[i] <;> rfl
  · intro h
    rw [← h]
    ext i hi
    simp only [BitVec.getElem_and, BitVec.getElem_or]
    cases x[i] <;> cases y[i] <;> rfl
def hdV (p : Pg) : Value := .agg #[.int .u8 p.fl.toNat, .int .u64 p.po, .int .u32 p.se, .int .u32 p.nu]
theorem u8_beq (a b : UInt8) : (((a.toNat : Nat) : Int) == ((b.toNat : Nat) : Int)) = (a == b) := by
  rw [Bool.eq_iff_iff, beq_iff_eq, beq_iff_eq, u8_eq]; omega
theorem has_any (p : Pg) (c : UInt8) (w : World) : Calls Try.prog 82 #[hdV p, .int .u8 c.toNat] w fun e w' => e = .returned (.bool (hasB p.fl c)) ∧ Below w.heap.size w w' := by
  have e1 := u8_and p.fl c
  have e2 : (((p.fl &&& c).toNat : Int) == (c.toNat : Int)) = hasB p.fl c := u8_beq _ _
  unfold hdV
  go_enter Try.func82, Try.ntmps82
  go_wp2
  go_ret
  exact ⟨by rw [← e2, UInt8.toNat_and]; rfl, (Below.refl _ _).alloc (Nat.le_refl _) _⟩

/-- the last of a page's laces is full -/
def openB (l : List UInt8) : Bool := l.getLast? == some 255
theorem open_no (p : Pg) (w : World) (h : p.la = []) : Calls Try.prog 86 #[pgV p] w fun e w' => e = .returned (.bool false) ∧ Below w.heap.size w w' := by
  unfold pgV pgR
  rw [h]
  go_enter Try.func86, Try.ntmps86
  go_wp2
  go_ret
  exact ⟨rfl, (Below.refl _ _).alloc (Nat.le_refl _) _⟩
theorem open_last (p : Pg) (l : List UInt8) (c : UInt8) (w : World) (h : p.la = l ++ [c]) (hl : l.length ≤ 1000000000) : Calls Try.prog 86 #[pgV p] w fun e w' => e = .returned (.bool (c == 255)) ∧ Below w.heap.size w w' := by
  unfold pgV pgR
  rw [h]
  have hn : (l ++ [c]).length = l.length + 1 := by simp
  have hg : ∀ j (h : j < (l ++ [c]).length), j = l.length → (l ++ [c])[j]'h = c := by intro j hj he; subst he; simp
  have e2 : (((c.toNat : Nat) : Int) == 255) = (c == 255) := u8_beq c 255
  generalize l ++ [c] = L at *
  generalize l.length = n at *
  have h0 : (0 : Int) < L.length := by omega
  have e3 : ((L.length : Int) - 1).toNat = n := by omega
  have h1 : (0 : Int) ≤ (L.length : Int) - 1 := by omega
  have h2 : n < L.length := by omega
  have h4 : L.length ≤ 1000000001 := by omega
  have hg := hg n h2 rfl
  have h6 : 0 < L.length := by omega
  have HN := Lib.hid hn
  clear hn
  go_enter Try.func86, Try.ntmps86
  go_wp2
  go_ret
  exact ⟨rfl, (Below.refl _ _).alloc (Nat.le_refl _) _⟩
theorem open_any (p : Pg) (w : World) (hl : p.la.length ≤ 1000000000) : Calls Try.prog 86 #[pgV p] w fun e w' => e = .returned (.bool (openB p.la)) ∧ Below w.heap.size w w' := by
  rcases List.eq_nil_or_concat p.la with h | ⟨l, c, h⟩
  · have := open_no p w h
    rw [h]
    exact this
  · rw [List.concat_eq_append] at h
    have h3 : l.length ≤ 1000000000 := by rw [h] at hl; simp at hl; omega
    have h2 := open_last p l c w h h3
    have e : openB p.la = (c == 255) := by rw [h]; unfold openB; rw [List.getLast?_concat]; simp
    rw [e]
    exact h2
end Go.Proofs.Ytmnmonmbdgedbaa
