/- The walks of layer 1 (octet), third part: the safe number, and the document's numbers. -/
import Derived.Test.YtemiegbgnpcbiaaOct2
namespace Go.Proofs.Ytemiegbgnpcbiaa
open Go.RowKit

/-- a number in seven bits a byte, the lowest first -/
def safeS : Nat → Nat → List UInt8
  | _, 0 => []
  | n, k + 1 => UInt8.ofNat (n % 128) :: safeS (n / 128) k
def safeL (n : Nat) : List UInt8 := (safeS n 4).reverse

def SafeB (wr : World) (B : Nat) (j x n : Nat) : Prop :=
  ∃ done, Buf wr B 5 (.slice (some ⟨B, 0, none⟩) 4 4) (List.replicate j 0 ++ done) ∧ done.length + j = 4 ∧ (safeS x j).reverse ++ done = safeL n
theorem SafeB.has {wr : World} {B j x n : Nat} (h : SafeB wr B (j + 1) x n) : (∃ u, wr.cell? ⟨B, j, none⟩ = some u) ∧ wr.frozen? ⟨B, j, none⟩ = false := by
  obtain ⟨done, hb, hal, _⟩ := h
  exact ⟨hb.has j (by simp; omega), hb.free j⟩
theorem SafeB.step {wr : World} {B j x n : Nat} (h : SafeB wr B (j + 1) x n) : SafeB (wr.setCell ⟨B, j, none⟩ (.int .u8 ((x : Int) % 128))) B j (x / 128) n := by
  obtain ⟨done, hb, hd, hax⟩ := h
  have h1 := (hb.stored j (UInt8.ofNat (x % 128))).1
  rw [set_last, u8_mod, show (((x % 128 : Nat) : Int) % 256) = (x : Int) % 128 by omega] at h1
  refine ⟨UInt8.ofNat (x % 128) :: done, h1, by simp; omega, ?_⟩
  rw [← hax, safeS]
  simp

set_option maxHeartbeats 400000 in
set_option maxRecDepth 100000 in
theorem safe_yes (n : Nat) (w : World) (hn : n ≤ 268435455) :
    Calls Try.prog 44 #[.int .u64 n] w fun e w' => e = .returned (.tuple #[.string ⟨(safeL n).toArray⟩, .bool true]) ∧ Below w.heap.size w w' := by
  obtain ⟨i0, hi, hz0, hz1, hz2⟩ := info_parts info_u8'
  go_enter Try.func44, Try.ntmps44
  go_wp2_with (at_make; refine wpList_make_full _ rfl _ _ 76 rfl w.heap.size 5 i0 (.int .u8 0) 1 Try.underlying76 hi hz0 hz1 _ _ _ _ 4 rfl rfl rfl rfl (by rw [hz2]; omega) (by unfold maxLen; omega) (Nat.le_refl _) ?_)
  intro w1 hown hgrow
  have hbuf := Buf.zeros hown
  have hbel : Below w.heap.size w w1 := (Below.refl _ _).grown hgrow (Nat.le_refl _) (by intro k hk; cases hk)
  clear hown hgrow
  go_wp2
  go_loopw [0, 5] (fun v i wr => ∃ (j x : Nat), j ≤ 4 ∧ i = .int .i64 ((j : Int) - 1) ∧ v = .int .u64 x ∧ x ≤ 268435455 ∧ Hid (SafeB wr w.heap.size j x n) ∧ Hid (Below w.heap.size w wr)) (fun _ i _ => (intOf i + 1).toNat)
  case atStart => exact ⟨4, n, Nat.le_refl _, rfl, rfl, hn, Lib.hid ⟨[], by simpa using hbuf, by simp, by simp [safeL]⟩, Lib.hid hbel⟩
  case round =>
    clear hbuf hbel
    obtain ⟨j, x, hj, hij, rfl, HX, HB, HL⟩ := hrel
    rcases j with _ | j
    · subst hij
      obtain ⟨done, hb, hal, hax⟩ := HB.out
      have hcv := ownsRow_bytes (P := Try.prog) (src := 76) (dst := 9) (show World.ownsRow _ _ _ _ _ _ _ from hb) Try.underlying76 Try.underlying5 Try.underlying9
      have HAX := Lib.hid hax
      clear hax hal
      go_wp2
      go_ret2
      exact ⟨by rw [show done = safeL n by simpa [safeS] using HAX.out]; rfl, HL.out⟩
    · obtain rfl : _ = Value.int .i64 (j : Int) := hij.trans (by rw [show ((j + 1 : Nat) : Int) - 1 = (j : Int) by omega])
      clear hij
      obtain ⟨⟨u, hc⟩, hf⟩ := HB.out.has
      have hand := and127 x (by omega)
      go_wp2
      go_roundw
      case rel => exact ⟨j, x / 128, by omega, rfl, by go_num, by omega, Lib.hid HB.out.step, Lib.hid (HL.out.setCell (Nat.le_refl _) _)⟩
      case measure => simp [intOf]

/-- the number of some bytes, the highest first -/
def numL (l : List UInt8) : Nat := l.foldl (fun n c => n * 256 + c.toNat) 0
theorem numL_snoc (l : List UInt8) (c : UInt8) : numL (l ++ [c]) = numL l * 256 + c.toNat := by simp [numL]
theorem numL_lt : ∀ (l : List UInt8) (a : Nat), l.foldl (fun n c => n * 256 + c.toNat) a < (a + 1) * 256 ^ l.length
  | [], a => by simp
  | c :: t, a => by
    have h := numL_lt t (a * 256 + c.toNat)
    have hc := UInt8.toNat_lt c
    simp only [List.foldl_cons, List.length_cons]
    have : (a * 256 + c.toNat + 1) * 256 ^ t.length ≤ (a + 1) * 256 ^ (t.length + 1) := by
      rw [Nat.pow_succ, Nat.mul_comm (256 ^ t.length) 256, ← Nat.mul_assoc]
      exact Nat.mul_le_mul_right _ (by omega)
    omega

theorem numL_take (l : List UInt8) (j : Nat) (h : j < l.length) : numL (l.take (j + 1)) = numL (l.take j) * 256 + l[j].toNat := by
  rw [List.take_succ_eq_append_getElem h, numL_snoc]
theorem numL_bound (l : List UInt8) : numL l < 256 ^ l.length := by have := numL_lt l 0; simpa [numL] using this
theorem numL_bound' (l : List UInt8) (j : Nat) (h : j ≤ 7) : numL (l.take j) ≤ 72057594037927935 := by
  have h1 := numL_bound (l.take j)
  have h2 : (256 : Nat) ^ (l.take j).length ≤ 256 ^ 7 := Nat.pow_le_pow_right (by decide) (by rw [List.length_take]; omega)
  have h3 : (256 : Nat) ^ 7 = 72057594037927936 := by decide
  omega

theorem take_len (m : Rd) (n : Int) : (m.take n).2.length ≤ n.toNat := by
  unfold Rd.take
  split
  · split
    · simp
    · simp; omega
  · simp

theorem numL_drop (l : List UInt8) (j : Nat) (h : j < l.length) : numL (l.drop j).reverse = numL (l.drop (j + 1)).reverse * 256 + l[j].toNat := by
  rw [drop_cons l j h, List.reverse_cons, numL_snoc]
theorem numL_bound2 (l : List UInt8) (j : Nat) (h : l.length - j ≤ 7) : numL (l.drop j).reverse ≤ 72057594037927935 := by
  have h1 := numL_bound (l.drop j).reverse
  have h2 : (256 : Nat) ^ (l.drop j).reverse.length ≤ 256 ^ 7 := Nat.pow_le_pow_right (by decide) (by rw [List.length_reverse, List.length_drop]; omega)
  have h3 : (256 : Nat) ^ 7 = 72057594037927936 := by decide
  omega

/-! ### The number of seven bits a byte -/
def num7 (l : List UInt8) : Nat := l.foldl (fun n c => n * 128 + c.toNat) 0
theorem num7_snoc (l : List UInt8) (c : UInt8) : num7 (l ++ [c]) = num7 l * 128 + c.toNat := by simp [num7]
def hi (c : UInt8) : Bool := decide (128 ≤ c.toNat)
def Rd.safe (m : Rd) : Rd × Int :=
  match (m.take 4).2.findIdx? hi with
  | some i => ((m.take 4).1.fail 1 (m.bs + m.nx + i), 0)
  | none => ((m.take 4).1, num7 (m.take 4).2)

theorem take_bs (m : Rd) (n : Int) : (m.take n).1.bs = m.bs := by
  unfold Rd.take; split
  · split
    · exact Rd.fail_bs _ _ _
    · rfl
  · rfl
theorem take_t (m : Rd) (n : Int) : (m.take n).1.t = m.t := by
  unfold Rd.take; split
  · split
    · exact Rd.fail_t _ _ _
    · rfl
  · rfl
theorem take_nx (m : Rd) (n : Int) (hm : m.nx ≤ m.t.length) : (m.take n).1.nx = m.nx + (m.take n).2.length := by
  unfold Rd.take; split
  · split
    · exact Rd.fail_nx _ _ _
    · simp; omega
  · rfl
theorem take_ok {m : Rd} (n : Int) (hm : m.Ok) : (m.take n).1.Ok := by
  refine ⟨?_, ?_, ?_, ?_⟩
  · rw [take_nx m n hm.1, take_t]
    unfold Rd.take; split
    · split
      · exact hm.1
      · have := hm.1; simp; omega
    · exact hm.1
  · rw [take_t]; exact hm.2.1
  · rw [take_bs]; exact hm.2.2.1
  · rw [take_bs]; exact hm.2.2.2

def Low7 (l : List UInt8) : Prop := ∀ c ∈ l, hi c = false
theorem num7_take (l : List UInt8) (j : Nat) (h : j < l.length) : num7 (l.take (j + 1)) = num7 (l.take j) * 128 + l[j].toNat := by
  rw [List.take_succ_eq_append_getElem h, num7_snoc]

theorem low7_take (l : List UInt8) (j : Nat) (h : j < l.length) (h1 : Low7 (l.take j)) (h2 : hi l[j] = false) : Low7 (l.take (j + 1)) := by
  rw [List.take_succ_eq_append_getElem h]
  intro c hc
  rw [List.mem_append, List.mem_singleton] at hc
  rcases hc with hc | rfl
  · exact h1 c hc
  · exact h2
theorem findIdx_at (l : List UInt8) (j : Nat) (h : j < l.length) (h1 : Low7 (l.take j)) (h2 : hi l[j] = true) : l.findIdx? hi = some j := by
  rw [List.findIdx?_eq_some_iff_getElem]
  refine ⟨h, h2, ?_⟩
  intro i hi'
  have := h1 l[i] (by rw [List.mem_take_iff_getElem]; exact ⟨i, by omega, rfl⟩)
  simpa using this
theorem num7_lt : ∀ (l : List UInt8) (a : Nat), Low7 l → l.foldl (fun n c => n * 128 + c.toNat) a < (a + 1) * 128 ^ l.length
  | [], a, _ => by simp
  | c :: t, a, hl => by
    have h := num7_lt t (a * 128 + c.toNat) (fun d hd => hl d (List.mem_cons_of_mem _ hd))
    have hc : c.toNat < 128 := by have := hl c (List.mem_cons_self ..); simpa [hi] using this
    simp only [List.foldl_cons, List.length_cons]
    have : (a * 128 + c.toNat + 1) * 128 ^ t.length ≤ (a + 1) * 128 ^ (t.length + 1) := by
      rw [Nat.pow_succ, Nat.mul_comm (128 ^ t.length) 128, ← Nat.mul_assoc]
      exact Nat.mul_le_mul_right _ (by omega)
    omega
theorem num7_bound (l : List UInt8) (h : Low7 l) (hl : l.length ≤ 3) : num7 l ≤ 2097151 := by
  have h1 := num7_lt l 0 h
  have h2 : (128 : Nat) ^ l.length ≤ 128 ^ 3 := Nat.pow_le_pow_right (by decide) hl
  have h3 : (128 : Nat) ^ 3 = 2097152 := by decide
  unfold num7
  omega

end Go.Proofs.Ytemiegbgnpcbiaa
