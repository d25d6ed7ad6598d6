/- Layer 15 (tag): head, skip, walked. -/
import Derived.Test.YtmnmonmbdgedbaaTg4
import Derived.Deep.QuietTactic
import Derived.BigQuiet
namespace Go.Proofs.Ytmnmonmbdgedbaa
open Go.RowKit
set_option linter.unusedVariables false
set_option linter.unusedSimpArgs false

theorem ST.drewN {w0 w : World} {o x z : Nat} {X Z : Array Value} {T U : TypeId} (h : ST w0 w o x X T z Z U) (n : Nat) : ST w0 (w.drewN n) o x X T z Z U := ⟨h.fr, h.zr, h.on.drewN n⟩
theorem block_drewN {w : World} {b : Nat} {o : Obj} (h : w.heap[b]? = some o) (n : Nat) : (w.drewN n).heap[b]? = some o := h
def THead (b : Nat) (m' : Rd) (v : Int) (rv fl : Nat) (w : World) (e : Ending) (w' : World) : Prop := e = .returned (.agg #[.int .i64 v, .int .u8 rv, .int .u8 fl]) ∧ RdAt w' b m' ∧ Only b w w'
set_option maxHeartbeats 4000000 in
set_option maxRecDepth 100000 in
theorem thead_bad (b : Nat) (m m1 m2 m3 m4 : Rd) (v1 v2 v3 : Nat) (c q : Int) (ok : Bool) (w : World) (h : RdAt w b m) (h1 : v1 ≤ 255) (h2 : v2 ≤ 255) (h3 : v3 ≤ 255) (hc : (c != 0) = true)
    (W1 : Hid (∀ w, RdAt w b m → Calls Try.prog 61 #[.pointer (some ⟨b, 0, none⟩), .string ⟨#[73, 68, 51]⟩] w fun e w' => e = .returned (.bool ok) ∧ RdAt w' b m1 ∧ Only b w w'))
    (T1 : Hid (∀ w, RdAt w b m1 → Calls Try.prog 93 #[.pointer (some ⟨b, 0, none⟩), .int .i64 1] w fun e w' => e = .returned (.int .u64 v1) ∧ RdAt w' b m2 ∧ Only b w w'))
    (T2 : Hid (∀ w, RdAt w b m2 → Calls Try.prog 93 #[.pointer (some ⟨b, 0, none⟩), .int .i64 1] w fun e w' => e = .returned (.int .u64 v2) ∧ RdAt w' b m3 ∧ Only b w w'))
    (T3 : Hid (∀ w, RdAt w b m3 → Calls Try.prog 93 #[.pointer (some ⟨b, 0, none⟩), .int .i64 1] w fun e w' => e = .returned (.int .u64 v3) ∧ RdAt w' b m4 ∧ Only b w w'))
    (FA : Hid (∀ w, RdAt w b m4 → Calls Try.prog 56 #[.pointer (some ⟨b, 0, none⟩)] w fun e w' => e = .returned (.agg #[.int .i64 c, .int .i64 q]) ∧ Below w.heap.size w w')) :
    Calls Try.prog 53 #[.pointer (some ⟨b, 0, none⟩)] w (THead b m4 0 0 0 w) := by
  have BD := Lib.hid (fun w => bad_any c q w)
  rw [hc] at BD
  have hlt := h.lt
  have hbr : b ≠ w.heap.size := by omega
  have S : Hid (ST w (w.alloc (.cells #[.int .i64 0, .int .u8 0, .int .u8 0] 23)) b w.heap.size _ 23 w.heap.size _ 23) := Lib.hid ⟨at_a0 _ _ _, at_a0 _ _ _, Only.of_below ((Below.refl _ _).alloc (Nat.le_refl _) _)⟩
  have R := Lib.hid (h.alloc (.cells #[.int .i64 0, .int .u8 0, .int .u8 0] 23))
  have i1 : (v1 : Int) ≤ 255 := by omega
  have i2 : (v2 : Int) ≤ 255 := by omega
  have i3 : (v3 : Int) ≤ 255 := by omega
  clear h hc h1 h2 h3
  unfold THead
  go_enter Try.func53, Try.ntmps53
  go_wp2_with (first | (go_at_call 61; (with_reducible refine (W1.out _ R.out).mono ?_); rintro e w1 ⟨rfl, r1, o1⟩; replace S := Lib.hid (S.out.read o1 hbr.symm hbr.symm (.inl rfl)); replace R := Lib.hid r1; clear r1 o1) | (go_at_call 93; (with_reducible refine (T1.out _ R.out).mono ?_); rintro e w2 ⟨rfl, r1, o1⟩; replace S := Lib.hid (S.out.read o1 hbr.symm hbr.symm (.inl rfl)); replace R := Lib.hid r1; clear r1 o1) | (go_at_call 93; (with_reducible refine (T2.out _ R.out).mono ?_); rintro e w3 ⟨rfl, r1, o1⟩; replace S := Lib.hid (S.out.read o1 hbr.symm hbr.symm (.inl rfl)); replace R := Lib.hid r1; clear r1 o1) | (go_at_call 93; (with_reducible refine (T3.out _ R.out).mono ?_); rintro e w4 ⟨rfl, r1, o1⟩; replace S := Lib.hid ((S.out.read o1 hbr.symm hbr.symm (.inl rfl)).alloc (.cells #[.int .i64 v1, .int .u8 v2, .int .u8 v3] 23)); replace R := Lib.hid (r1.alloc (.cells #[.int .i64 v1, .int .u8 v2, .int .u8 v3] 23)); clear r1 o1) | (go_at_call 56; (with_reducible refine (FA.out _ R.out).mono ?_); rintro e w5 ⟨rfl, hb5⟩; replace S := Lib.hid (S.out.below hb5); replace R := Lib.hid (R.out.below hb5); clear hb5) | (go_at_call 16; (with_reducible refine (BD.out _).mono ?_); rintro e w6 ⟨rfl, hb6⟩; replace S := Lib.hid (S.out.below hb6); replace R := Lib.hid (R.out.below hb6); obtain ⟨z0, z1, z2⟩ := cells3 (S.out.zr); obtain ⟨zf0, zf1, zf2⟩ := frees3 (S.out.zr); clear hb6))
  refine end_cell rfl rfl rfl (store3 S.out.zr rfl) Try.underlying23 rfl (by kernel_rfl) ⟨rfl, ?_, ?_⟩
  · exact ((R.out.putO hbr _).putO hbr _).putO hbr _
  · exact ((S.out.on.other (Only.set _) (.inr (Nat.le_refl _))).other (Only.set _) (.inr (Nat.le_refl _))).other (Only.set _) (.inr (Nat.le_refl _))
def fail4 (x1 x2 x3 x4 : Bool) (m : Rd) : Rd :=
  let m5 := if x1 = true then m.fail 3 3 else m
  let m6 := if x2 = true then m5.fail 1 4 else m5
  let m7 := if x3 = true then m6.fail 1 5 else m6
  if x4 = true then m7.fail 3 5 else m7
set_option maxHeartbeats 16000000 in
set_option maxRecDepth 100000 in
theorem thead_in (b : Nat) (m m1 m2 m3 m4 : Rd) (v1 v2 v3 : Nat) (q : Int) (ok : Bool) (n0 k : Nat) (x1 x2 x3 x4 : Bool) (w : World) (h : RdAt w b m) (h1 : v1 ≤ 255) (h2 : v2 ≤ 255) (h3 : v3 ≤ 255)
    (W1 : Hid (∀ w, RdAt w b m → Calls Try.prog 61 #[.pointer (some ⟨b, 0, none⟩), .string ⟨#[73, 68, 51]⟩] w fun e w' => e = .returned (.bool ok) ∧ RdAt w' b m1 ∧ Only b w w'))
    (T1 : Hid (∀ w, RdAt w b m1 → Calls Try.prog 93 #[.pointer (some ⟨b, 0, none⟩), .int .i64 1] w fun e w' => e = .returned (.int .u64 v1) ∧ RdAt w' b m2 ∧ Only b w w'))
    (T2 : Hid (∀ w, RdAt w b m2 → Calls Try.prog 93 #[.pointer (some ⟨b, 0, none⟩), .int .i64 1] w fun e w' => e = .returned (.int .u64 v2) ∧ RdAt w' b m3 ∧ Only b w w'))
    (T3 : Hid (∀ w, RdAt w b m3 → Calls Try.prog 93 #[.pointer (some ⟨b, 0, none⟩), .int .i64 1] w fun e w' => e = .returned (.int .u64 v3) ∧ RdAt w' b m4 ∧ Only b w w'))
    (FA : Hid (∀ w, RdAt w b m4 → Calls Try.prog 56 #[.pointer (some ⟨b, 0, none⟩)] w fun e w' => e = .returned (.agg #[.int .i64 0, .int .i64 q]) ∧ Below w.heap.size w w'))
    (LT : Hid (∀ w, Calls Try.prog 75 #[.int .i64 v1] w fun e w' => e = .returned (.int .i64 n0) ∧ w = w'))
    (AL : Hid (∀ w, Calls Try.prog 74 #[.int .i64 v1] w fun e w' => e = .returned (.int .u8 k) ∧ w = w'))
    (t1 : ((n0 : Int) == 0) = x1) (t2 : ((v2 : Int) == 255) = x2) (t3 : (bits .andNot .u8 (v3 : Int) (k : Int) != 0) = x3)
    (t4 : (((v1 : Int) == 2) = false ∧ x4 = false) ∨ (((v1 : Int) == 2) = true ∧ (bits .and .u8 (v3 : Int) 64 != 0) = x4)) :
    Calls Try.prog 53 #[.pointer (some ⟨b, 0, none⟩)] w (THead b (fail4 x1 x2 x3 x4 m4) v1 v2 v3 w) := by
  have BD := Lib.hid (fun w => bad_any 0 q w)
  rw [show ((0 : Int) != 0) = false by rfl] at BD
  have F1 := Lib.hid (fun m w h => fail_any b m 3 3 w h)
  have F2 := Lib.hid (fun m w h => fail_any b m 1 4 w h)
  have F3 := Lib.hid (fun m w h => fail_any b m 1 5 w h)
  have F4 := Lib.hid (fun m w h => fail_any b m 3 5 w h)
  have hlt := h.lt
  have hbr : b ≠ w.heap.size := by omega
  have S : Hid (ST w (w.alloc (.cells #[.int .i64 0, .int .u8 0, .int .u8 0] 23)) b w.heap.size _ 23 w.heap.size _ 23) := Lib.hid ⟨at_a0 _ _ _, at_a0 _ _ _, Only.of_below ((Below.refl _ _).alloc (Nat.le_refl _) _)⟩
  have R := Lib.hid (h.alloc (.cells #[.int .i64 0, .int .u8 0, .int .u8 0] 23))
  have i1 : (v1 : Int) ≤ 255 := by omega
  have i2 : (v2 : Int) ≤ 255 := by omega
  have i3 : (v3 : Int) ≤ 255 := by omega
  obtain ⟨rb, hrb⟩ : ∃ rb, rb = w.heap.size := ⟨_, rfl⟩
  have HRB := Lib.hid hrb
  clear h h1 h2 h3 hrb
  unfold THead
  go_enter Try.func53, Try.ntmps53
  go_upto_region 5 with (first | (go_at_call 61; (with_reducible refine (W1.out _ R.out).mono ?_); rintro e w1 ⟨rfl, r1, o1⟩; replace S := Lib.hid (S.out.read o1 hbr.symm hbr.symm (.inl rfl)); replace R := Lib.hid r1; clear r1 o1) | (go_at_call 93; (with_reducible refine (T1.out _ R.out).mono ?_); rintro e w2 ⟨rfl, r1, o1⟩; replace S := Lib.hid (S.out.read o1 hbr.symm hbr.symm (.inl rfl)); replace R := Lib.hid r1; clear r1 o1) | (go_at_call 93; (with_reducible refine (T2.out _ R.out).mono ?_); rintro e w3 ⟨rfl, r1, o1⟩; replace S := Lib.hid (S.out.read o1 hbr.symm hbr.symm (.inl rfl)); replace R := Lib.hid r1; clear r1 o1) | (go_at_call 93; (with_reducible refine (T3.out _ R.out).mono ?_); rintro e w4 ⟨rfl, r1, o1⟩; have Y := Lib.hid (at_a0 w4 #[.int .i64 v1, .int .u8 v2, .int .u8 v3] 23); have hb4 := r1.lt; have hx4 := (S.out.read o1 hbr.symm hbr.symm (.inl rfl)).on.size; have hz4 : w.heap.size < w4.heap.size := (Array.getElem?_eq_some_iff.1 (S.out.read o1 hbr.symm hbr.symm (.inl rfl)).zr).1; replace S := Lib.hid ((S.out.read o1 hbr.symm hbr.symm (.inl rfl)).alloc (.cells #[.int .i64 v1, .int .u8 v2, .int .u8 v3] 23)); replace R := Lib.hid (r1.alloc (.cells #[.int .i64 v1, .int .u8 v2, .int .u8 v3] 23)); clear r1 o1) | (go_at_call 56; (with_reducible refine (FA.out _ R.out).mono ?_); rintro e w5 ⟨rfl, hb5⟩; replace S := Lib.hid (S.out.below hb5); replace R := Lib.hid (R.out.below hb5); replace Y := Lib.hid (block_below Y.out (hb5)); clear hb5) | (go_at_call 16; (with_reducible refine (BD.out _).mono ?_); rintro e w6 ⟨rfl, hb6⟩; replace S := Lib.hid (S.out.below hb6); replace R := Lib.hid (R.out.below hb6); replace Y := Lib.hid (block_below Y.out (hb6)); clear hb6; obtain ⟨y0, y1, y2⟩ := cells3 (Y.out); obtain ⟨z0, z1, z2⟩ := cells3 (S.out.zr); obtain ⟨zf0, zf1, zf2⟩ := frees3 (S.out.zr)))
  generalize w4.heap.size = yb at *
  clear BD W1 T1 T2 T3 FA hx4
  have hxz := HRB.out
  rcases x1 with _ | _ <;> rcases x2 with _ | _ <;> rcases x3 with _ | _ <;> rcases t4 with ⟨t4, rfl⟩ | ⟨t4, t5⟩ <;> try rcases x4 with _ | _
  all_goals
    go_upto_region 9 with (first | (go_at_call 75; (with_reducible refine (LT.out _).mono ?_); rintro e wx ⟨rfl, rfl⟩) | (go_at_call 94; (with_reducible refine (F1.out _ _ R.out).mono ?_); rintro e w7 ⟨rfl, r1, o1⟩; replace S := Lib.hid (S.out.read o1 hbr.symm hbr.symm (.inl rfl)); replace Y := Lib.hid (block_only Y.out o1 (by omega)); replace R := Lib.hid r1; clear r1 o1; obtain ⟨y0, y1, y2⟩ := cells3 (Y.out); obtain ⟨z0, z1, z2⟩ := cells3 (S.out.zr); obtain ⟨zf0, zf1, zf2⟩ := frees3 (S.out.zr)) | (go_at_call 94; (with_reducible refine (F2.out _ _ R.out).mono ?_); rintro e w8 ⟨rfl, r1, o1⟩; replace S := Lib.hid (S.out.read o1 hbr.symm hbr.symm (.inl rfl)); replace Y := Lib.hid (block_only Y.out o1 (by omega)); replace R := Lib.hid r1; clear r1 o1; obtain ⟨y0, y1, y2⟩ := cells3 (Y.out); obtain ⟨z0, z1, z2⟩ := cells3 (S.out.zr); obtain ⟨zf0, zf1, zf2⟩ := frees3 (S.out.zr)))
    go_quiet ((go_at_call 74; exact Calls.quiet_of_same ((AL.out _).mono fun e w' ⟨h1, h2⟩ => ⟨h1, h2.symm⟩)))
    replace S := Lib.hid (S.out.drewN nq)
    replace R := Lib.hid (R.out.drewN nq)
    replace Y := Lib.hid (block_drewN Y.out nq)
    obtain ⟨y0, y1, y2⟩ := cells3 (Y.out)
    obtain ⟨z0, z1, z2⟩ := cells3 (S.out.zr); obtain ⟨zf0, zf1, zf2⟩ := frees3 (S.out.zr)
    go_wp2_with (first | (go_at_call 94; (with_reducible refine (F3.out _ _ R.out).mono ?_); rintro e w9 ⟨rfl, r1, o1⟩; replace S := Lib.hid (S.out.read o1 hbr.symm hbr.symm (.inl rfl)); replace Y := Lib.hid (block_only Y.out o1 (by omega)); replace R := Lib.hid r1; clear r1 o1; obtain ⟨y0, y1, y2⟩ := cells3 (Y.out); obtain ⟨z0, z1, z2⟩ := cells3 (S.out.zr); obtain ⟨zf0, zf1, zf2⟩ := frees3 (S.out.zr)) | (go_at_call 94; (with_reducible refine (F4.out _ _ R.out).mono ?_); rintro e w10 ⟨rfl, r1, o1⟩; replace S := Lib.hid (S.out.read o1 hbr.symm hbr.symm (.inl rfl)); replace Y := Lib.hid (block_only Y.out o1 (by omega)); replace R := Lib.hid r1; clear r1 o1; obtain ⟨y0, y1, y2⟩ := cells3 (Y.out); obtain ⟨z0, z1, z2⟩ := cells3 (S.out.zr); obtain ⟨zf0, zf1, zf2⟩ := frees3 (S.out.zr)))
    refine end_cell rfl rfl rfl (store3 S.out.zr rfl) Try.underlying23 rfl (by kernel_rfl) ⟨rfl, ?_, ?_⟩
    · exact ((R.out.putO hbr _).putO hbr _).putO hbr _
    · exact ((S.out.on.other (Only.set _) (.inr (Nat.le_refl _))).other (Only.set _) (.inr (Nat.le_refl _))).other (Only.set _) (.inr (Nat.le_refl _))
end Go.Proofs.Ytmnmonmbdgedbaa
