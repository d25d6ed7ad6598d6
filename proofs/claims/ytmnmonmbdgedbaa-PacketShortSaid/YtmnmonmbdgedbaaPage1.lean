/- Layer 17 (page): how many bytes laces come to; a page as plain data. -/
import Derived.Test.YtmnmonmbdgedbaaLow
import Derived.Test.YtmnmonmbdgedbaaSumB
import Derived.Deep.QuietTactic
import Derived.BigQuiet
namespace Go.Proofs.Ytmnmonmbdgedbaa
open Go.RowKit
set_option linter.unusedVariables false

/-- a page: its flags, its position, its serial number, its number, its laces, its body -/
structure Pg where
  fl : UInt8
  po : Nat
  se : Nat
  nu : Nat
  la : List UInt8
  bo : List UInt8
def pgR (p : Pg) : List Value := [.int .u8 p.fl.toNat, .int .u64 p.po, .int .u32 p.se, .int .u32 p.nu, .string ⟨p.la.toArray⟩, .string ⟨p.bo.toArray⟩]
def pgV (p : Pg) : Value := .agg (pgR p).toArray
def Pg.Ok (p : Pg) : Prop := p.po < 18446744073709551616 ∧ p.se < 4294967296 ∧ p.nu < 4294967296
/-- what laces come to -/
def lacesL (l : List UInt8) : Nat := l.foldl (fun n c => n + c.toNat) 0
theorem laces_snoc (l : List UInt8) (c : UInt8) : lacesL (l ++ [c]) = lacesL l + c.toNat := by simp [lacesL]
theorem laces_take (l : List UInt8) (k : Nat) (h : k < l.length) : lacesL (l.take (k + 1)) = lacesL (l.take k) + l[k].toNat := by
  rw [List.take_succ_eq_append_getElem h, laces_snoc]
theorem laces_le (l : List UInt8) (k : Nat) (h : k ≤ l.length) : lacesL (l.take k) ≤ 255 * k := by
  induction k with
  | zero => simp [lacesL]
  | succ k ih =>
    have hk : k < l.length := by omega
    have := ih (by omega)
    have h2 := UInt8.toNat_lt l[k]
    rw [laces_take l k hk]
    omega

set_option maxHeartbeats 1000000 in
set_option maxRecDepth 100000 in
theorem total_any (l : List UInt8) (w : World) (hl : l.length ≤ 1000000000) : Calls Try.prog 87 #[.string ⟨l.toArray⟩] w fun e w' => e = .returned (.int .i64 (lacesL l)) ∧ w = w' := by
  go_enter Try.func87, Try.ntmps87
  go_wp2
  go_loopw [3, 7] (fun z i wr => ∃ (k : Nat), k ≤ l.length ∧ i = .int .i64 k ∧ z = .int .i64 (lacesL (l.take k)) ∧ lacesL (l.take k) ≤ 255 * k ∧ wr = w) (fun _ i _ => l.length - (intOf i).toNat)
  case atStart => exact ⟨0, by omega, rfl, rfl, by simp [lacesL], rfl⟩
  case round =>
    obtain ⟨k, hk, rfl, rfl, hb, rfl⟩ := hrel
    by_cases hlt : k < l.length
    · have h0 : (k : Int) < l.length := by omega
      have ht := laces_take l k hlt
      have HT := Lib.hid ht
      have hc := byte_le l[k]
      clear ht
      generalize lacesL (l.take k) = x at *
      go_wp2
      refine ⟨⟨k + 1, by omega, by simp, by rw [HT.out]; simp, by rw [HT.out]; omega, by first | rfl | trivial⟩, by simp [intOf]; omega⟩
    · have h0 : ¬ (k : Int) < l.length := by omega
      go_wp2
      go_ret
      rw [List.take_of_length_le (by omega)]
      exact ⟨rfl, rfl⟩

def checkC (p : Pg) : Int := if 255 < p.la.length then 4 else if p.bo.length ≠ lacesL p.la then 5 else 0

set_option maxHeartbeats 1000000 in
set_option maxRecDepth 100000 in
theorem check_any (p : Pg) (w : World) (hl : p.la.length ≤ 1000000000) : Calls Try.prog 44 #[pgV p] w fun e w' => e = .returned (.agg #[.int .i64 (checkC p), .int .i64 0]) ∧ Below w.heap.size w w' := by
  have CT := Lib.hid (fun w => total_any p.la w hl)
  unfold pgV pgR checkC
  by_cases h1 : (255 : Int) < p.la.length
  · rw [if_pos (by omega)]
    go_enter Try.func44, Try.ntmps44
    go_wp2
    exact end_cell rfl rfl rfl (at_a2 _ _ _ _) Try.underlying31 rfl (by kernel_rfl) ⟨rfl, ((Below.refl _ _).alloc (Nat.le_refl _) _).alloc (by simp) _⟩
  · rw [if_neg (by omega)]
    by_cases h2 : p.bo.length = lacesL p.la
    · rw [if_neg (by simpa using h2)]
      have t1 : ((p.bo.length : Int) != (lacesL p.la : Nat)) = false := by simp; omega
      clear h2
      go_enter Try.func44, Try.ntmps44
      go_wp2
      go_quiet ((go_at_call 87; exact Calls.quiet_of_same ((CT.out _).mono fun e w' ⟨h1, h2⟩ => ⟨h1, h2.symm⟩)))
      go_wp2
      have hz : Below w.heap.size w ((w.alloc (.cells #[.int .u8 p.fl.toNat, .int .u64 p.po, .int .u32 p.se, .int .u32 p.nu, .string ⟨p.la.toArray⟩, .string ⟨p.bo.toArray⟩] 66)).alloc (.cells #[.int .i64 0, .int .i64 0] 31)) := ((Below.refl _ _).alloc (Nat.le_refl _) _).alloc (by simp) _
      refine end_cell rfl rfl rfl (store2 (C := #[.int .i64 0, .int .i64 0]) (e := 31) ?_ rfl) Try.underlying31 rfl (by kernel_rfl) ⟨rfl, Below.setCell (Below.setCell ?_ (by simp) _) (by simp) _⟩
      · exact at_a2 _ _ _ _
      · exact ⟨hz.os, hz.tape, hz.output, hz.size, hz.block⟩
    · rw [if_pos h2]
      have t1 : ((p.bo.length : Int) != (lacesL p.la : Nat)) = true := by simp; omega
      clear h2
      go_enter Try.func44, Try.ntmps44
      go_wp2
      go_quiet ((go_at_call 87; exact Calls.quiet_of_same ((CT.out _).mono fun e w' ⟨h1, h2⟩ => ⟨h1, h2.symm⟩)))
      go_wp2
      have hz : Below w.heap.size w ((w.alloc (.cells #[.int .u8 p.fl.toNat, .int .u64 p.po, .int .u32 p.se, .int .u32 p.nu, .string ⟨p.la.toArray⟩, .string ⟨p.bo.toArray⟩] 66)).alloc (.cells #[.int .i64 0, .int .i64 0] 31)) := ((Below.refl _ _).alloc (Nat.le_refl _) _).alloc (by simp) _
      refine end_cell rfl rfl rfl (store2 (C := #[.int .i64 0, .int .i64 0]) (e := 31) ?_ rfl) Try.underlying31 rfl (by kernel_rfl) ⟨rfl, Below.setCell (Below.setCell ?_ (by simp) _) (by simp) _⟩
      · exact at_a2 _ _ _ _
      · exact ⟨hz.os, hz.tape, hz.output, hz.size, hz.block⟩

end Go.Proofs.Ytmnmonmbdgedbaa
