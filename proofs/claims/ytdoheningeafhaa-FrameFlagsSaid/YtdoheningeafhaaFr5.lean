/- Layer 13 (frame): frame.size; what reading a frame comes to, joined. -/
import Derived.Test.YtdoheningeafhaaFr4
namespace Go.Proofs.Ytdoheningeafhaa
open Go.RowKit
set_option linter.unusedVariables false
set_option linter.unusedSimpArgs false

theorem num7_fold : ∀ (l : List UInt8) (a : Nat), l.foldl (fun n c => n * 128 + c.toNat) a ≤ (a + 2) * 256 ^ l.length - 2
  | [], a => by simp
  | c :: t, a => by
    have hc := UInt8.toNat_lt c
    have h := num7_fold t (a * 128 + c.toNat)
    rw [List.foldl_cons, List.length_cons, Nat.pow_succ]
    have hp : 0 < 256 ^ t.length := Nat.pow_pos (by decide)
    have h2 : (a * 128 + c.toNat + 2) * 256 ^ t.length ≤ (a + 2) * 256 * 256 ^ t.length := Nat.mul_le_mul_right _ (by omega)
    have h3 : (a + 2) * (256 ^ t.length * 256) = (a + 2) * 256 * 256 ^ t.length := by rw [Nat.mul_comm (256 ^ t.length), Nat.mul_assoc]
    omega
theorem num7_top (l : List UInt8) (h : l.length ≤ 4) : num7 l ≤ 8589934592 := by
  have h1 := num7_fold l 0
  have h2 : (256 : Nat) ^ l.length ≤ 256 ^ 4 := Nat.pow_le_pow_right (by decide) h
  unfold num7
  omega
theorem safe_nonneg (m : Rd) : 0 ≤ m.safe.2 := by
  unfold Rd.safe
  split
  · exact Int.le_refl _
  · exact Int.natCast_nonneg _
theorem safe_top (m : Rd) : m.safe.2.toNat ≤ 8589934592 := by
  unfold Rd.safe
  split
  · exact Nat.zero_le _
  · exact num7_top _ (take_len m 4)
/-- the size in a frame's head -/
def sizeM (v : Int) (m : Rd) : Rd × Nat :=
  if v = 2 then ((m.take ((3 : Nat) : Int)).1, numL (m.take ((3 : Nat) : Int)).2) else if v = 3 then ((m.take ((4 : Nat) : Int)).1, numL (m.take ((4 : Nat) : Int)).2) else (m.safe.1, m.safe.2.toNat)
theorem numL_le (l : List UInt8) (h : l.length ≤ 4) : numL l ≤ 8589934592 := by
  have h1 := numL_bound l
  have h2 : (256 : Nat) ^ l.length ≤ 256 ^ 4 := Nat.pow_le_pow_right (by decide) h
  omega
set_option maxRecDepth 100000 in
theorem size_core (v : Int) (b n : Nat) (m m' : Rd) (w : World) (h : RdAt w b m) (hn : n ≤ 8589934592)
    (C2 : Hid (v = 2 → ∀ w, RdAt w b m → Calls Try.prog 96 #[.pointer (some ⟨b, 0, none⟩), .int .i64 3] w fun e w' => e = .returned (.int .u64 n) ∧ RdAt w' b m' ∧ Only b w w'))
    (C3 : Hid (v = 3 → ∀ w, RdAt w b m → Calls Try.prog 96 #[.pointer (some ⟨b, 0, none⟩), .int .i64 4] w fun e w' => e = .returned (.int .u64 n) ∧ RdAt w' b m' ∧ Only b w w'))
    (C4 : Hid (v ≠ 2 → v ≠ 3 → ∀ w, RdAt w b m → Calls Try.prog 81 #[.pointer (some ⟨b, 0, none⟩)] w fun e w' => e = .returned (.int .i64 n) ∧ RdAt w' b m' ∧ Only b w w')) :
    Calls Try.prog 95 #[.int .i64 v, .pointer (some ⟨b, 0, none⟩)] w fun e w' => e = .returned (.int .i64 n) ∧ RdAt w' b m' ∧ Only b w w' := by
  have R := Lib.hid h
  clear h
  have hn' : (n : Int) ≤ 8589934592 := by omega
  by_cases h2 : v = 2
  · have C := Lib.hid (C2.out h2)
    subst h2
    clear C2 C3 C4
    go_enter Try.func95, Try.ntmps95
    go_wp2_with (go_at_call 96; (with_reducible refine (C.out _ R.out).mono ?_); rintro e w1 ⟨rfl, r1, o1⟩; have R1 := Lib.hid r1; have O1 := Lib.hid o1; clear r1 o1)
    go_ret
    exact ⟨rfl, R1.out, O1.out⟩
  · by_cases h3 : v = 3
    · have C := Lib.hid (C3.out h3)
      subst h3
      clear C2 C3 C4 h2
      go_enter Try.func95, Try.ntmps95
      go_wp2_with (go_at_call 96; (with_reducible refine (C.out _ R.out).mono ?_); rintro e w1 ⟨rfl, r1, o1⟩; have R1 := Lib.hid r1; have O1 := Lib.hid o1; clear r1 o1)
      go_ret
      exact ⟨rfl, R1.out, O1.out⟩
    · have C := Lib.hid (C4.out h2 h3)
      have t2 := no_case h2
      have t3 := no_case h3
      clear C2 C3 C4 h2 h3
      go_enter Try.func95, Try.ntmps95
      go_wp2_with (go_at_call 81; (with_reducible refine (C.out _ R.out).mono ?_); rintro e w1 ⟨rfl, r1, o1⟩; have R1 := Lib.hid r1; have O1 := Lib.hid o1; clear r1 o1)
      go_ret
      exact ⟨rfl, R1.out, O1.out⟩
theorem fsize_any (v : Int) (b : Nat) (m : Rd) (w : World) (h : RdAt w b m) (hm : m.Ok) : Calls Try.prog 95 #[.int .i64 v, .pointer (some ⟨b, 0, none⟩)] w fun e w' => e = .returned (.int .i64 ((sizeM v m).2 : Nat)) ∧ RdAt w' b (sizeM v m).1 ∧ Only b w w' := by
  refine size_core v b _ m _ w h ?_ (Lib.hid ?_) (Lib.hid ?_) (Lib.hid ?_)
  · unfold sizeM
    split
    · exact numL_le _ (Nat.le_trans (take_len _ _) (by decide))
    · split
      · exact numL_le _ (Nat.le_trans (take_len _ _) (by decide))
      · exact safe_top m
  · intro hv w h
    unfold sizeM
    rw [if_pos hv]
    exact inbig_any b m 3 3 w h hm (Lib.hid (by decide))
  · intro hv w h
    unfold sizeM
    rw [if_neg (by omega), if_pos hv]
    exact inbig_any b m 4 4 w h hm (Lib.hid (by decide))
  · intro h2 h3 w h
    unfold sizeM
    rw [if_neg h2, if_neg h3]
    have := insafe_any b m w h hm
    rw [← Int.toNat_of_nonneg (safe_nonneg m)] at this
    exact this

/-- a frame's head and data read: the reader behind it -/
structure Fp where
  m2 : Rd
  m5 : Rd
  id : List UInt8
  st : UInt8
  fm : UInt8
  at2 : Int
  data : List UInt8
def frMain (v : Int) (sp : Bool) (m : Rd) : Fp :=
  let a1 := m.take ((letters v : Nat) : Int)
  let m2 := if wrongN a1.2 < a1.2.length then a1.1.fail 1 (m.bs + m.nx + (wrongN a1.2 : Nat)) else a1.1
  let a3 := sizeM v m2
  let a4 := if v = 2 then (a3.1, []) else a3.1.take ((2 : Nat) : Int)
  let fm := UInt8.ofNat (numL a4.2 % 256)
  let a5 := a4.1.take ((a3.2 : Nat) : Int)
  ⟨m2, a5.1, a1.2, UInt8.ofNat (numL a4.2 / 256), if v = 4 ∧ sp = true then fm ||| 2 else fm, a4.1.bs + a4.1.nx, a5.2⟩
def frEnd (v : Int) (m : Rd) (f : Fp) : Rd × Fr × Bool :=
  if f.m5.cd ≠ 0 then (f.m5, zeroF, false) else
    if (fillC v f.fm f.data f.at2).1 ≠ 0 then (f.m5.fail (fillC v f.fm f.data f.at2).1 (fillC v f.fm f.data f.at2).2, zeroF, false)
    else (f.m5, ⟨f.id, f.st, f.fm, (fillB v f.fm f.data f.at2).1, (fillB v f.fm f.data f.at2).2, m.bs + m.nx⟩, true)
def frParse (v : Int) (sp : Bool) (m : Rd) : Rd × Fr × Bool :=
  if letters v = 0 ∨ m.cd ≠ 0 ∨ m.left = 0 ∨ m.peek 1 = [0] then (m, zeroF, false) else frEnd v m (frMain v sp m)

theorem take_dead {m : Rd} (h : m.cd ≠ 0) (k : Int) : m.take k = (m, []) := by
  unfold Rd.take
  rw [if_neg h]
theorem safe_dead {m : Rd} (h : m.cd ≠ 0) : m.safe = (m, 0) := by
  unfold Rd.safe
  rw [take_dead h]
  rfl
theorem sizeM_dead (v : Int) {m : Rd} (h : m.cd ≠ 0) : sizeM v m = (m, 0) := by
  unfold sizeM
  rw [take_dead h, take_dead h, safe_dead h]
  split
  · rfl
  · split <;> rfl
theorem sizeM_ok (v : Int) {m : Rd} (h : m.Ok) : (sizeM v m).1.Ok := by
  unfold sizeM
  split
  · exact take_ok _ h
  · split
    · exact take_ok _ h
    · exact fr_safe_ok h
theorem sizeM_bs (v : Int) (m : Rd) : (sizeM v m).1.bs = m.bs := by
  unfold sizeM
  split
  · exact take_bs _ _
  · split
    · exact take_bs _ _
    · unfold Rd.safe
      split
      · rw [Rd.fail_bs, take_bs]
      · rw [take_bs]
theorem or_two (c : UInt8) : bits .or .u8 (c.toNat : Int) 2 = ((c ||| 2).toNat : Int) := by
  have hc := UInt8.toNat_lt c
  have e : (BitVec.ofInt IntKind.u8.bits (c.toNat : Int) ||| BitVec.ofInt IntKind.u8.bits 2).toNat = (c ||| 2).toNat := by
    rw [BitVec.toNat_or, UInt8.toNat_or]
    show (BitVec.ofInt 8 (c.toNat : Int)).toNat ||| (BitVec.ofInt 8 ((2 : Nat) : Int)).toNat = _
    rw [BitVec.ofInt_natCast, BitVec.ofInt_natCast, BitVec.toNat_ofNat, BitVec.toNat_ofNat, Nat.mod_eq_of_lt hc]
    rfl
  simp only [bits, e]
  have := UInt8.toNat_lt (c ||| 2)
  generalize (c ||| 2).toNat = z at *
  simp only [IntKind.wrap, IntKind.bits, IntKind.signed]
  simp
  omega
end Go.Proofs.Ytdoheningeafhaa
