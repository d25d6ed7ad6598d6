/- The walks of layer 1 (octet), third part: the safe number, and the document's numbers. -/
import Derived.Test.YtmnmonmbdgedbaaOct2
namespace Go.Proofs.Ytmnmonmbdgedbaa
open Go.RowKit

/-- a number in seven bits a byte, the lowest first -/
def safeS : Nat → Nat → List UInt8
  | _, 0 => []
  | n, k + 1 => UInt8.ofNat (n % 128) :: safeS (n / 128) k
def safeL (n : Nat) : List UInt8 := (safeS n 4).reverse

def SafeB (wr : World) (B : Nat) (j x n : Nat) : Prop :=
  ∃ done, Buf wr B 5 (.slice (some ⟨B, 0, none⟩) 4 4) (List.replicate j 0 ++ done) ∧ done.length + j = 4 ∧ (safeS x j).reverse ++ done = safeL n
theorem SafeB.has {wr : World} {B j x n : Nat} (h : SafeB wr B (j + 1) x n) : (∃ u, wr.cell? ⟨B, j, none⟩ = some u) ∧ wr.frozen? ⟨B, j, none⟩ = false := by
  obtain ⟨done, hb, hal, _⟩ := h
  exact ⟨hb.has j (by simp; omega), hb.free j⟩
theorem SafeB.step {wr : World} {B j x n : Nat} (h : SafeB wr B (j + 1) x n) : SafeB (wr.setCell ⟨B, j, none⟩ (.int .u8 ((x : Int) % 128))) B j (x / 128) n := by
  obtain ⟨done, hb, hd, hax⟩ := h
  have h1 := (hb.stored j (UInt8.ofNat (x % 128))).1
  rw [set_last, u8_mod, show (((x % 128 : Nat) : Int) % 256) = (x : Int) % 128 by omega] at h1
  refine ⟨UInt8.ofNat (x % 128) :: done, h1, by simp; omega, ?_⟩
  rw [← hax, safeS]
  simp

set_option maxHeartbeats 400000 in
set_option maxRecDepth 100000 in
theorem safe_yes (n : Nat) (w : World) (hn : n ≤ 268435455) :
    Calls Try.prog 49 #[.int .u64 n] w fun e w' => e = .returned (.tuple #[.string ⟨(safeL n).toArray⟩, .bool true]) ∧ Below w.heap.size w w' := by
  obtain ⟨i0, hi, hz0, hz1, hz2⟩ := info_parts info_u8'
  go_enter Try.func49, Try.ntmps49
  go_wp2_with (at_make; refine wpList_make_full _ rfl _ _ 97 rfl w.heap.size 5 i0 (.int .u8 0) 1 Try.underlying97 hi hz0 hz1 _ _ _ _ 4 rfl rfl rfl rfl (by rw [hz2]; omega) (by unfold maxLen; omega) (Nat.le_refl _) ?_)
  intro w1 hown hgrow
  have hbuf := Buf.zeros hown
  have hbel : Below w.heap.size w w1 := (Below.refl _ _).grown hgrow (Nat.le_refl _) (by intro k hk; cases hk)
  clear hown hgrow
  go_wp2
  go_loopw [0, 5] (fun v i wr => ∃ (j x : Nat), j ≤ 4 ∧ i = .int .i64 ((j : Int) - 1) ∧ v = .int .u64 x ∧ x ≤ 268435455 ∧ Hid (SafeB wr w.heap.size j x n) ∧ Hid (Below w.heap.size w wr)) (fun _ i _ => (intOf i + 1).toNat)
  case atStart => exact ⟨4, n, Nat.le_refl _, rfl, rfl, hn, Lib.hid ⟨[], by simpa using hbuf, by simp, by simp [safeL]⟩, Lib.hid hbel⟩
  case round =>
    clear hbuf hbel
    obtain ⟨j, x, hj, hij, rfl, HX, HB, HL⟩ := hrel
    rcases j with _ | j
    · subst hij
      obtain ⟨done, hb, hal, hax⟩ := HB.out
      have hcv := ownsRow_bytes (P := Try.prog) (src := 97) (dst := 9) (show World.ownsRow _ _ _ _ _ _ _ from hb) Try.underlying97 Try.underlying5 Try.underlying9
      have HAX := Lib.hid hax
      clear hax hal
      go_wp2
      go_ret2
      exact ⟨by rw [show done = safeL n by simpa [safeS] using HAX.out]; rfl, HL.out⟩
    · obtain rfl : _ = Value.int .i64 (j : Int) := hij.trans (by rw [show ((j + 1 : Nat) : Int) - 1 = (j : Int) by omega])
      clear hij
      obtain ⟨⟨u, hc⟩, hf⟩ := HB.out.has
      have hand := and127 x (by omega)
      go_wp2
      go_roundw
      case rel => exact ⟨j, x / 128, by omega, rfl, by go_num, by omega, Lib.hid HB.out.step, Lib.hid (HL.out.setCell (Nat.le_refl _) _)⟩
      case measure => simp [intOf]

theorem rsafe_any (n : Nat) (w : World) (hn : n ≤ 268435455) :
    Calls Try.prog 79 #[.int .u64 n] w fun e w' => e = .returned (.string ⟨(safeL n).toArray⟩) ∧ Below w.heap.size w w' := by
  go_enter Try.func79, Try.ntmps79
  go_wp2
  go_ret
  exact ⟨ret_str (by simp [safeL, safeS, Nat.div_div_eq_div_mul]), (Below.refl _ _).alloc (Nat.le_refl _) _⟩

set_option maxRecDepth 100000 in
theorem size_any (n : Int) (w : World) : Calls Try.prog 133 #[.int .i64 n] w fun e w' => e = .returned (.int .i64 (min (max n 0) 8)) ∧ w = w' := by
  go_enter Try.func133, Try.ntmps133
  go_wp2
  all_goals (go_ret; exact ⟨ret_int (by omega), rfl⟩)

set_option maxHeartbeats 400000 in
set_option maxRecDepth 100000 in
theorem rbig_any (n : Nat) (k : Nat) (size : Int) (w : World) (hn : Hid (n < 18446744073709551616)) (hk : Hid (min (max size 0) 8 = (k : Int))) :
    Calls Try.prog 110 #[.int .u64 n, .int .i64 size] w fun e w' => e = .returned (.string ⟨(bigL n k).toArray⟩) ∧ Below w.heap.size w w' := by
  have hk8 : k ≤ 8 := by have := hk.out; omega
  go_enter Try.func110, Try.ntmps110
  go_wp2
  go_loopw [0, 5, 6] (fun v s i wr => ∃ (j x : Nat) (acc : List UInt8), j ≤ k ∧ i = .int .i64 j ∧ v = .int .u64 x ∧ s = .string ⟨acc.toArray⟩ ∧ acc.length = j ∧ Hid (x < 18446744073709551616) ∧ Hid (bigL x (k - j) ++ acc = bigL n k) ∧ Hid (Below w.heap.size w wr)) (fun _ _ i _ => k - (intOf i).toNat)
  case atStart => exact ⟨0, n, [], Nat.zero_le _, rfl, rfl, rfl, rfl, hn, Lib.hid (by simp), Lib.hid (Below.refl _ _)⟩
  case round =>
    obtain ⟨j, x, acc, hj, rfl, rfl, rfl, hal, HX, HA, HL⟩ := hrel
    have hal' : acc.length ≤ 8 := by omega
    have HAL := Lib.hid hal
    have hw := wrap_div x 256 HX.out
    clear hal
    by_cases hlt : j < k
    · go_wp2_with (go_at_call 133; refine (size_any _ _).mono ?_; rw [hk.out]; rintro e w' ⟨rfl, rfl⟩)
      go_roundw
      case rel => exact ⟨j + 1, x / 256, _, by omega, by go_num, by go_num, rfl, by rw [List.length_cons, HAL.out], Lib.hid (by have := HX.out; omega), Lib.hid (by have := HA.out; rw [show k - j = (k - (j + 1)) + 1 by omega, bigL_succ, ← ofNat_mod x] at this; simpa using this), Lib.hid (HL.out.alloc HL.out.size _)⟩
      case measure => simp [intOf]; omega
    · go_wp2_with (go_at_call 133; refine (size_any _ _).mono ?_; rw [hk.out]; rintro e w' ⟨rfl, rfl⟩)
      go_ret
      exact ⟨ret_str (by have := HA.out; rw [show k - j = 0 by omega] at this; simpa [bigL, smallL] using this), HL.out⟩

/-- the number of some bytes, the highest first -/
def numL (l : List UInt8) : Nat := l.foldl (fun n c => n * 256 + c.toNat) 0
theorem numL_snoc (l : List UInt8) (c : UInt8) : numL (l ++ [c]) = numL l * 256 + c.toNat := by simp [numL]
theorem numL_lt : ∀ (l : List UInt8) (a : Nat), l.foldl (fun n c => n * 256 + c.toNat) a < (a + 1) * 256 ^ l.length
  | [], a => by simp
  | c :: t, a => by
    have h := numL_lt t (a * 256 + c.toNat)
    have hc := UInt8.toNat_lt c
    simp only [List.foldl_cons, List.length_cons]
    have : (a * 256 + c.toNat + 1) * 256 ^ t.length ≤ (a + 1) * 256 ^ (t.length + 1) := by
      rw [Nat.pow_succ, Nat.mul_comm (256 ^ t.length) 256, ← Nat.mul_assoc]
      exact Nat.mul_le_mul_right _ (by omega)
    omega

theorem numL_take (l : List UInt8) (j : Nat) (h : j < l.length) : numL (l.take (j + 1)) = numL (l.take j) * 256 + l[j].toNat := by
  rw [List.take_succ_eq_append_getElem h, numL_snoc]
theorem numL_bound (l : List UInt8) : numL l < 256 ^ l.length := by have := numL_lt l 0; simpa [numL] using this
theorem numL_bound' (l : List UInt8) (j : Nat) (h : j ≤ 7) : numL (l.take j) ≤ 72057594037927935 := by
  have h1 := numL_bound (l.take j)
  have h2 : (256 : Nat) ^ (l.take j).length ≤ 256 ^ 7 := Nat.pow_le_pow_right (by decide) (by rw [List.length_take]; omega)
  have h3 : (256 : Nat) ^ 7 = 72057594037927936 := by decide
  omega

set_option maxHeartbeats 400000 in
set_option maxRecDepth 100000 in
theorem number_any (l : List UInt8) (w : World) (hl : l.length ≤ 8) :
    Calls Try.prog 104 #[.string ⟨l.toArray⟩] w fun e w' => e = .returned (.int .u64 (numL l)) ∧ w = w' := by
  go_enter Try.func104, Try.ntmps104
  go_wp2
  go_loop [3, 4] (fun s i => ∃ (j x : Nat), j ≤ l.length ∧ i = .int .i64 j ∧ s = .int .u64 x ∧ Hid (x = numL (l.take j))) (fun _ i => l.length - (intOf i).toNat)
  case atStart => exact ⟨0, 0, Nat.zero_le _, rfl, rfl, Lib.hid (by simp [numL])⟩
  case round =>
    obtain ⟨j, x, hj, rfl, rfl, HX⟩ := hrel
    by_cases hlt : j < l.length
    · have hx : x ≤ 72057594037927935 := by rw [HX.out]; exact numL_bound' l j (by omega)
      have hc := byte_le l[j]
      go_wp2
      go_round
      case rel => exact ⟨j + 1, x * 256 + l[j].toNat, by omega, by go_num, by go_num, Lib.hid (by rw [numL_take l j hlt, HX.out])⟩
      case measure => simp [intOf]; omega
    · go_wp2
      go_ret
      exact ⟨ret_int (by rw [HX.out, List.take_of_length_le (by omega)]), rfl⟩

theorem take_len (m : Rd) (n : Int) : (m.take n).2.length ≤ n.toNat := by
  unfold Rd.take
  split
  · split
    · simp
    · simp; omega
  · simp

set_option maxHeartbeats 400000 in
set_option maxRecDepth 100000 in
theorem inbig_any (b : Nat) (m : Rd) (size : Int) (k : Nat) (w : World) (h : RdAt w b m) (hm : m.Ok) (hk : Hid (min (max size 0) 8 = (k : Int))) : Calls Try.prog 93 #[.pointer (some ⟨b, 0, none⟩), .int .i64 size] w fun e w' => e = .returned (.int .u64 (numL (m.take k).2)) ∧ RdAt w' b (m.take k).1 ∧ Only b w w' := by
  have hk8 : k ≤ 8 := by have := hk.out; omega
  have HT := Lib.hid (fun w h => take_any b m k w h hm)
  have hl := take_len m k
  rw [Int.toNat_natCast] at hl
  generalize m.take (k : Int) = mt at *
  obtain ⟨m', l⟩ := mt
  simp only at hl
  go_enter Try.func93, Try.ntmps93
  go_wp2_with (first | (go_at_call 92; refine (width_any _ _).mono ?_; rw [hk.out]; rintro e w' ⟨rfl, rfl⟩) | (go_at_call 54; refine (HT.out _ h).mono ?_; rintro e w2 ⟨rfl, hr2, ho2⟩))
  go_loop [6, 7] (fun s i => ∃ (j x : Nat), j ≤ l.length ∧ i = .int .i64 j ∧ s = .int .u64 x ∧ Hid (x = numL (l.take j))) (fun _ i => l.length - (intOf i).toNat)
  case atStart => exact ⟨0, 0, Nat.zero_le _, rfl, rfl, Lib.hid (by simp [numL])⟩
  case round =>
    obtain ⟨j, x, hj, rfl, rfl, HX⟩ := hrel
    by_cases hlt : j < l.length
    · have hx : x ≤ 72057594037927935 := by rw [HX.out]; exact numL_bound' l j (by omega)
      have hc := byte_le l[j]
      have hor := or_byte x l[j] hx
      go_wp2
      go_round
      case rel => exact ⟨j + 1, x * 256 + l[j].toNat, by omega, by go_num, by go_num, Lib.hid (by rw [numL_take l j hlt, HX.out])⟩
      case measure => simp [intOf]; omega
    · go_wp2
      go_ret
      exact ⟨ret_int (by rw [HX.out, List.take_of_length_le (by omega)]), hr2, ho2⟩

theorem numL_drop (l : List UInt8) (j : Nat) (h : j < l.length) : numL (l.drop j).reverse = numL (l.drop (j + 1)).reverse * 256 + l[j].toNat := by
  rw [drop_cons l j h, List.reverse_cons, numL_snoc]
theorem numL_bound2 (l : List UInt8) (j : Nat) (h : l.length - j ≤ 7) : numL (l.drop j).reverse ≤ 72057594037927935 := by
  have h1 := numL_bound (l.drop j).reverse
  have h2 : (256 : Nat) ^ (l.drop j).reverse.length ≤ 256 ^ 7 := Nat.pow_le_pow_right (by decide) (by rw [List.length_reverse, List.length_drop]; omega)
  have h3 : (256 : Nat) ^ 7 = 72057594037927936 := by decide
  omega

set_option maxHeartbeats 400000 in
set_option maxRecDepth 100000 in
theorem insmall_any (b : Nat) (m : Rd) (size : Int) (k : Nat) (w : World) (h : RdAt w b m) (hm : m.Ok) (hk : Hid (min (max size 0) 8 = (k : Int))) : Calls Try.prog 145 #[.pointer (some ⟨b, 0, none⟩), .int .i64 size] w fun e w' => e = .returned (.int .u64 (numL (m.take k).2.reverse)) ∧ RdAt w' b (m.take k).1 ∧ Only b w w' := by
  have hk8 : k ≤ 8 := by have := hk.out; omega
  have HT := Lib.hid (fun w h => take_any b m k w h hm)
  have hl := take_len m k
  rw [Int.toNat_natCast] at hl
  generalize m.take (k : Int) = mt at *
  obtain ⟨m', l⟩ := mt
  simp only at hl
  go_enter Try.func145, Try.ntmps145
  go_wp2_with (first | (go_at_call 92; refine (width_any _ _).mono ?_; rw [hk.out]; rintro e w' ⟨rfl, rfl⟩) | (go_at_call 54; refine (HT.out _ h).mono ?_; rintro e w2 ⟨rfl, hr2, ho2⟩))
  go_loop [6, 7] (fun s i => ∃ (j x : Nat), j ≤ l.length ∧ i = .int .i64 ((j : Int) - 1) ∧ s = .int .u64 x ∧ Hid (x = numL (l.drop j).reverse)) (fun _ i => (intOf i + 1).toNat)
  case atStart => exact ⟨l.length, 0, Nat.le_refl _, rfl, rfl, Lib.hid (by simp [numL])⟩
  case round =>
    obtain ⟨j, x, hj, hij, rfl, HX⟩ := hrel
    rcases j with _ | j
    · subst hij
      go_wp2
      go_ret
      exact ⟨ret_int (by rw [HX.out]; rfl), hr2, ho2⟩
    · obtain rfl : _ = Value.int .i64 (j : Int) := hij.trans (by rw [show ((j + 1 : Nat) : Int) - 1 = (j : Int) by omega])
      clear hij
      have hlt : j < l.length := hj
      have hx : x ≤ 72057594037927935 := by rw [HX.out]; exact numL_bound2 l (j + 1) (by omega)
      have hc := byte_le l[j]
      have hor := or_byte x l[j] hx
      go_wp2
      go_round
      case rel => exact ⟨j, x * 256 + l[j].toNat, by omega, rfl, by go_num, Lib.hid (by rw [numL_drop l j hlt, HX.out])⟩
      case measure => simp [intOf]

/-! ### The number of seven bits a byte -/
def num7 (l : List UInt8) : Nat := l.foldl (fun n c => n * 128 + c.toNat) 0
theorem num7_snoc (l : List UInt8) (c : UInt8) : num7 (l ++ [c]) = num7 l * 128 + c.toNat := by simp [num7]
def hi (c : UInt8) : Bool := decide (128 ≤ c.toNat)
def Rd.safe (m : Rd) : Rd × Int :=
  match (m.take 4).2.findIdx? hi with
  | some i => ((m.take 4).1.fail 1 (m.bs + m.nx + i), 0)
  | none => ((m.take 4).1, num7 (m.take 4).2)

theorem take_bs (m : Rd) (n : Int) : (m.take n).1.bs = m.bs := by
  unfold Rd.take; split
  · split
    · exact Rd.fail_bs _ _ _
    · rfl
  · rfl
theorem take_t (m : Rd) (n : Int) : (m.take n).1.t = m.t := by
  unfold Rd.take; split
  · split
    · exact Rd.fail_t _ _ _
    · rfl
  · rfl
theorem take_nx (m : Rd) (n : Int) (hm : m.nx ≤ m.t.length) : (m.take n).1.nx = m.nx + (m.take n).2.length := by
  unfold Rd.take; split
  · split
    · exact Rd.fail_nx _ _ _
    · simp; omega
  · rfl
theorem take_ok {m : Rd} (n : Int) (hm : m.Ok) : (m.take n).1.Ok := by
  refine ⟨?_, ?_, ?_, ?_⟩
  · rw [take_nx m n hm.1, take_t]
    unfold Rd.take; split
    · split
      · exact hm.1
      · have := hm.1; simp; omega
    · exact hm.1
  · rw [take_t]; exact hm.2.1
  · rw [take_bs]; exact hm.2.2.1
  · rw [take_bs]; exact hm.2.2.2

def Low7 (l : List UInt8) : Prop := ∀ c ∈ l, hi c = false
theorem num7_take (l : List UInt8) (j : Nat) (h : j < l.length) : num7 (l.take (j + 1)) = num7 (l.take j) * 128 + l[j].toNat := by
  rw [List.take_succ_eq_append_getElem h, num7_snoc]

theorem low7_take (l : List UInt8) (j : Nat) (h : j < l.length) (h1 : Low7 (l.take j)) (h2 : hi l[j] = false) : Low7 (l.take (j + 1)) := by
  rw [List.take_succ_eq_append_getElem h]
  intro c hc
  rw [List.mem_append, List.mem_singleton] at hc
  rcases hc with hc | rfl
  · exact h1 c hc
  · exact h2
theorem findIdx_at (l : List UInt8) (j : Nat) (h : j < l.length) (h1 : Low7 (l.take j)) (h2 : hi l[j] = true) : l.findIdx? hi = some j := by
  rw [List.findIdx?_eq_some_iff_getElem]
  refine ⟨h, h2, ?_⟩
  intro i hi'
  have := h1 l[i] (by rw [List.mem_take_iff_getElem]; exact ⟨i, by omega, rfl⟩)
  simpa using this
theorem num7_lt : ∀ (l : List UInt8) (a : Nat), Low7 l → l.foldl (fun n c => n * 128 + c.toNat) a < (a + 1) * 128 ^ l.length
  | [], a, _ => by simp
  | c :: t, a, hl => by
    have h := num7_lt t (a * 128 + c.toNat) (fun d hd => hl d (List.mem_cons_of_mem _ hd))
    have hc : c.toNat < 128 := by have := hl c (List.mem_cons_self ..); simpa [hi] using this
    simp only [List.foldl_cons, List.length_cons]
    have : (a * 128 + c.toNat + 1) * 128 ^ t.length ≤ (a + 1) * 128 ^ (t.length + 1) := by
      rw [Nat.pow_succ, Nat.mul_comm (128 ^ t.length) 128, ← Nat.mul_assoc]
      exact Nat.mul_le_mul_right _ (by omega)
    omega
theorem num7_bound (l : List UInt8) (h : Low7 l) (hl : l.length ≤ 3) : num7 l ≤ 2097151 := by
  have h1 := num7_lt l 0 h
  have h2 : (128 : Nat) ^ l.length ≤ 128 ^ 3 := Nat.pow_le_pow_right (by decide) hl
  have h3 : (128 : Nat) ^ 3 = 2097152 := by decide
  unfold num7
  omega

set_option maxHeartbeats 400000 in
set_option maxRecDepth 100000 in
theorem insafe_any (b : Nat) (m : Rd) (w : World) (h : RdAt w b m) (hm : m.Ok) : Calls Try.prog 55 #[.pointer (some ⟨b, 0, none⟩)] w fun e w' => e = .returned (.int .i64 m.safe.2) ∧ RdAt w' b m.safe.1 ∧ Only b w w' := by
  have HT := Lib.hid (fun w h => take_any b m 4 w h hm)
  have hl := take_len m 4
  have hnx := take_nx m 4 hm.1
  have hbs := take_bs m 4
  have hok := take_ok 4 hm
  have HS : Hid (m.safe = match (m.take 4).2.findIdx? hi with
    | some i => ((m.take 4).1.fail 1 (m.bs + m.nx + i), 0)
    | none => ((m.take 4).1, (num7 (m.take 4).2 : Int))) := Lib.hid rfl
  generalize m.safe = ms at *
  generalize m.take 4 = mt at *
  obtain ⟨m', l⟩ := mt
  have hl4 : l.length ≤ 4 := hl
  have HN : Hid (m'.nx = m.nx + l.length) := Lib.hid hnx
  have HB : Hid (m'.bs = m.bs) := Lib.hid hbs
  have hok' : m'.Ok := hok
  clear hl hnx hbs hok
  go_enter Try.func55, Try.ntmps55
  go_wp2_with (go_at_call 54; refine (HT.out _ h).mono ?_; rintro e w2 ⟨rfl, hr2, ho2⟩)
  have hr2' : RdAt w2 b m' := hr2
  clear hr2
  go_loop [4, 5] (fun s i => ∃ (j x : Nat), j ≤ l.length ∧ i = .int .i64 j ∧ s = .int .i64 x ∧ Hid (x = num7 (l.take j) ∧ Low7 (l.take j))) (fun _ i => l.length - (intOf i).toNat)
  case atStart => exact ⟨0, 0, Nat.zero_le _, rfl, rfl, Lib.hid ⟨by simp [num7], by simp [Low7]⟩⟩
  case round =>
    obtain ⟨j, x, hj, rfl, rfl, HX⟩ := hrel
    by_cases hlt : j < l.length
    · have hx : x ≤ 2097151 := by rw [HX.out.1]; exact num7_bound _ HX.out.2 (by rw [List.length_take]; omega)
      have hc := byte_le l[j]
      have HL7 := Lib.hid HX.out.2
      by_cases hhi : (128 : Int) ≤ (l[j].toNat : Int)
      · obtain ⟨c0, c1, c2, c3, c4, f1, f3, f4⟩ := hr2'.cells
        have hn := HN.out
        have hn' : l.length ≤ m'.nx := by omega
        have hn2 : m'.nx ≤ 1000000000 := by have := hok'.1; have := hok'.2.1; omega
        clear hn
        go_wp2_with (first | (go_at_call 97; refine (place_any b m' _ _ hr2' hok' (by omega) (by have := hok'.1; have := hok'.2.1; omega)).mono ?_; rintro e w3 ⟨rfl, rfl⟩) | (go_at_call 94; refine (fail_any _ _ _ _ _ hr2').mono ?_; rintro e w4 ⟨rfl, hr4, ho4⟩))
        go_ret
        have e1 : l.findIdx? hi = some j := findIdx_at l j hlt HL7.out (by unfold hi; exact decide_eq_true (by omega))
        have HS' := HS.out
        simp only [e1] at HS'
        have e2 : m'.bs + ((m'.nx : Int) - l.length + j) = m.bs + m.nx + j := by have := HN.out; have := HB.out; omega
        rw [e2] at hr4
        rw [HS']
        exact ⟨rfl, hr4, ho2.trans ho4⟩
      · have hl7 : hi l[j] = false := by simp [hi]; omega
        have hor := or_seven x l[j].toNat (by omega) (by omega)
        go_wp2
        go_round
        case rel => exact ⟨j + 1, x * 128 + l[j].toNat, by omega, by go_num, by go_num, Lib.hid ⟨by rw [num7_take l j hlt, HX.out.1], low7_take l j hlt HX.out.2 hl7⟩⟩
        case measure => simp [intOf]; omega
    · go_wp2
      go_ret
      have e0 : l.take j = l := List.take_of_length_le (by omega)
      have HX' := HX.out
      rw [e0] at HX'
      have e1 : l.findIdx? hi = none := by rw [List.findIdx?_eq_none_iff]; exact HX'.2
      have HS' := HS.out
      simp only [e1] at HS'
      rw [HS']
      exact ⟨ret_int (by rw [HX'.1]), hr2', ho2⟩
end Go.Proofs.Ytmnmonmbdgedbaa
