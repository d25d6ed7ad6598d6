/- Layer 13 (frame): frame.Parse, walked (printed by fr4.py). -/
import Derived.Test.YtmnmonmbdgedbaaFr3
namespace Go.Proofs.Ytmnmonmbdgedbaa
open Go.RowKit
set_option linter.unusedVariables false

def zeroF : Fr := ⟨[], 0, 0, 0, [], 0⟩
def FParse (b : Nat) (m' : Rd) (f : Fr) (ok : Bool) (w : World) (e : Ending) (w' : World) : Prop := e = .returned (.tuple #[frV f, .bool ok]) ∧ RdAt w' b m' ∧ Only b w w'
set_option maxHeartbeats 1000000 in
set_option maxRecDepth 100000 in
theorem fparse_no0 (v : Int) (sp : Bool) (b n : Nat) (m : Rd) (c q l0 : Int) (s : List UInt8) (w : World) (h : RdAt w b m)
    (LT : Hid (∀ w, Calls Try.prog 75 #[.int .i64 v] w fun e w' => e = .returned (.int .i64 0) ∧ w = w'))
    (FA : Hid (∀ w, RdAt w b m → Calls Try.prog 56 #[.pointer (some ⟨b, 0, none⟩)] w fun e w' => e = .returned (.agg #[.int .i64 c, .int .i64 q]) ∧ Below w.heap.size w w'))
    (LE : Hid (∀ w, RdAt w b m → Calls Try.prog 99 #[.pointer (some ⟨b, 0, none⟩)] w fun e w' => e = .returned (.int .i64 l0) ∧ Below w.heap.size w w'))
    (PK : Hid (∀ w, RdAt w b m → Calls Try.prog 123 #[.pointer (some ⟨b, 0, none⟩), .int .i64 1] w fun e w' => e = .returned (.string ⟨s.toArray⟩) ∧ Below w.heap.size w w'))
    
    : Calls Try.prog 89 #[.int .i64 v, .pointer (some ⟨b, 0, none⟩), .bool sp] w (FParse b m zeroF false w) := by
  have hlt := h.lt
  have hbr : b ≠ w.heap.size := by omega
  have hrn : w.heap.size ≤ w.heap.size := Nat.le_refl _
  have BD := Lib.hid (fun w => bad_any c q w)
  have S0 : Hid (ST w (w.alloc (.cells #[.string ⟨#[]⟩, .int .u8 0, .int .u8 0, .int .u8 0, .string ⟨#[]⟩, .int .i64 0] 47)) b w.heap.size _ 47 w.heap.size _ 47) := Lib.hid ⟨at_a0 _ _ _, at_a0 _ _ _, Only.of_below ((Below.refl _ _).alloc (Nat.le_refl _) _)⟩
  have R0 := Lib.hid (h.alloc (.cells #[.string ⟨#[]⟩, .int .u8 0, .int .u8 0, .int .u8 0, .string ⟨#[]⟩, .int .i64 0] 47))
  clear h
  unfold FParse frV frR zeroF
  go_enter Try.func89, Try.ntmps89
  go_wp2_with (first | (go_at_call 75; (with_reducible refine (LT.out _).mono ?_); rintro e wx ⟨rfl, rfl⟩; skip))
  exact end_cell_tmp rfl rfl rfl S0.out.zr Try.underlying47 rfl (by kernel_rfl) ⟨rfl, R0.out, S0.out.on⟩
set_option maxHeartbeats 1000000 in
set_option maxRecDepth 100000 in
theorem fparse_no1 (v : Int) (sp : Bool) (b n : Nat) (m : Rd) (c q l0 : Int) (s : List UInt8) (w : World) (h : RdAt w b m)
    (LT : Hid (∀ w, Calls Try.prog 75 #[.int .i64 v] w fun e w' => e = .returned (.int .i64 n) ∧ w = w'))
    (FA : Hid (∀ w, RdAt w b m → Calls Try.prog 56 #[.pointer (some ⟨b, 0, none⟩)] w fun e w' => e = .returned (.agg #[.int .i64 c, .int .i64 q]) ∧ Below w.heap.size w w'))
    (LE : Hid (∀ w, RdAt w b m → Calls Try.prog 99 #[.pointer (some ⟨b, 0, none⟩)] w fun e w' => e = .returned (.int .i64 l0) ∧ Below w.heap.size w w'))
    (PK : Hid (∀ w, RdAt w b m → Calls Try.prog 123 #[.pointer (some ⟨b, 0, none⟩), .int .i64 1] w fun e w' => e = .returned (.string ⟨s.toArray⟩) ∧ Below w.heap.size w w'))
    (h0 : ((n : Int) == 0) = false) (h1 : (c != 0) = true)
    : Calls Try.prog 89 #[.int .i64 v, .pointer (some ⟨b, 0, none⟩), .bool sp] w (FParse b m zeroF false w) := by
  have hlt := h.lt
  have hbr : b ≠ w.heap.size := by omega
  have hrn : w.heap.size ≤ w.heap.size := Nat.le_refl _
  have BD := Lib.hid (fun w => bad_any c q w)
  rw [h1] at BD
  have S0 : Hid (ST w (w.alloc (.cells #[.string ⟨#[]⟩, .int .u8 0, .int .u8 0, .int .u8 0, .string ⟨#[]⟩, .int .i64 0] 47)) b w.heap.size _ 47 w.heap.size _ 47) := Lib.hid ⟨at_a0 _ _ _, at_a0 _ _ _, Only.of_below ((Below.refl _ _).alloc (Nat.le_refl _) _)⟩
  have R0 := Lib.hid (h.alloc (.cells #[.string ⟨#[]⟩, .int .u8 0, .int .u8 0, .int .u8 0, .string ⟨#[]⟩, .int .i64 0] 47))
  clear h
  unfold FParse frV frR zeroF
  go_enter Try.func89, Try.ntmps89
  go_wp2_with (first | (go_at_call 75; (with_reducible refine (LT.out _).mono ?_); rintro e wx ⟨rfl, rfl⟩; skip) | (go_at_call 56; (with_reducible refine (FA.out _ R0.out).mono ?_); rintro e w1 ⟨rfl, hb1⟩; have S1 := Lib.hid (S0.out.below hb1); have R1 := Lib.hid (R0.out.below hb1); obtain ⟨z10, z11, z12, z13, z14, z15⟩ := cells6 (S1.out.zr); obtain ⟨z1f0, z1f1, z1f2, z1f3, z1f4, z1f5⟩ := frees6 (S1.out.zr); clear hb1) | (go_at_call 16; (with_reducible refine (BD.out _).mono ?_); rintro e w2 ⟨rfl, hb2⟩; have S2 := Lib.hid (S1.out.below hb2); have R2 := Lib.hid (R1.out.below hb2); obtain ⟨z20, z21, z22, z23, z24, z25⟩ := cells6 (S2.out.zr); obtain ⟨z2f0, z2f1, z2f2, z2f3, z2f4, z2f5⟩ := frees6 (S2.out.zr); clear hb2))
  refine end_cell_tmp rfl rfl rfl (store6 S2.out.zr rfl) Try.underlying47 rfl (by kernel_rfl) ⟨rfl, ?_, ?_⟩
  · exact (((((R2.out.putO hbr _).putO hbr _).putO hbr _).putO hbr _).putO hbr _).putO hbr _
  · exact ((((((S2.out.on.other (Only.set _) (.inr hrn)).other (Only.set _) (.inr hrn)).other (Only.set _) (.inr hrn)).other (Only.set _) (.inr hrn)).other (Only.set _) (.inr hrn)).other (Only.set _) (.inr hrn))
set_option maxHeartbeats 1000000 in
set_option maxRecDepth 100000 in
theorem fparse_no2 (v : Int) (sp : Bool) (b n : Nat) (m : Rd) (c q l0 : Int) (s : List UInt8) (w : World) (h : RdAt w b m)
    (LT : Hid (∀ w, Calls Try.prog 75 #[.int .i64 v] w fun e w' => e = .returned (.int .i64 n) ∧ w = w'))
    (FA : Hid (∀ w, RdAt w b m → Calls Try.prog 56 #[.pointer (some ⟨b, 0, none⟩)] w fun e w' => e = .returned (.agg #[.int .i64 c, .int .i64 q]) ∧ Below w.heap.size w w'))
    (LE : Hid (∀ w, RdAt w b m → Calls Try.prog 99 #[.pointer (some ⟨b, 0, none⟩)] w fun e w' => e = .returned (.int .i64 l0) ∧ Below w.heap.size w w'))
    (PK : Hid (∀ w, RdAt w b m → Calls Try.prog 123 #[.pointer (some ⟨b, 0, none⟩), .int .i64 1] w fun e w' => e = .returned (.string ⟨s.toArray⟩) ∧ Below w.heap.size w w'))
    (h0 : ((n : Int) == 0) = false) (h1 : (c != 0) = false) (h2 : (l0 == 0) = true)
    : Calls Try.prog 89 #[.int .i64 v, .pointer (some ⟨b, 0, none⟩), .bool sp] w (FParse b m zeroF false w) := by
  have hlt := h.lt
  have hbr : b ≠ w.heap.size := by omega
  have hrn : w.heap.size ≤ w.heap.size := Nat.le_refl _
  have BD := Lib.hid (fun w => bad_any c q w)
  rw [h1] at BD
  have S0 : Hid (ST w (w.alloc (.cells #[.string ⟨#[]⟩, .int .u8 0, .int .u8 0, .int .u8 0, .string ⟨#[]⟩, .int .i64 0] 47)) b w.heap.size _ 47 w.heap.size _ 47) := Lib.hid ⟨at_a0 _ _ _, at_a0 _ _ _, Only.of_below ((Below.refl _ _).alloc (Nat.le_refl _) _)⟩
  have R0 := Lib.hid (h.alloc (.cells #[.string ⟨#[]⟩, .int .u8 0, .int .u8 0, .int .u8 0, .string ⟨#[]⟩, .int .i64 0] 47))
  clear h
  unfold FParse frV frR zeroF
  go_enter Try.func89, Try.ntmps89
  go_wp2_with (first | (go_at_call 75; (with_reducible refine (LT.out _).mono ?_); rintro e wx ⟨rfl, rfl⟩; skip) | (go_at_call 56; (with_reducible refine (FA.out _ R0.out).mono ?_); rintro e w1 ⟨rfl, hb1⟩; have S1 := Lib.hid (S0.out.below hb1); have R1 := Lib.hid (R0.out.below hb1); obtain ⟨z10, z11, z12, z13, z14, z15⟩ := cells6 (S1.out.zr); obtain ⟨z1f0, z1f1, z1f2, z1f3, z1f4, z1f5⟩ := frees6 (S1.out.zr); clear hb1) | (go_at_call 16; (with_reducible refine (BD.out _).mono ?_); rintro e w2 ⟨rfl, hb2⟩; have S2 := Lib.hid (S1.out.below hb2); have R2 := Lib.hid (R1.out.below hb2); obtain ⟨z20, z21, z22, z23, z24, z25⟩ := cells6 (S2.out.zr); obtain ⟨z2f0, z2f1, z2f2, z2f3, z2f4, z2f5⟩ := frees6 (S2.out.zr); clear hb2) | (go_at_call 99; (with_reducible refine (LE.out _ R2.out).mono ?_); rintro e w3 ⟨rfl, hb3⟩; have S3 := Lib.hid (S2.out.below hb3); have R3 := Lib.hid (R2.out.below hb3); obtain ⟨z30, z31, z32, z33, z34, z35⟩ := cells6 (S3.out.zr); obtain ⟨z3f0, z3f1, z3f2, z3f3, z3f4, z3f5⟩ := frees6 (S3.out.zr); clear hb3))
  refine end_cell_tmp rfl rfl rfl (store6 S3.out.zr rfl) Try.underlying47 rfl (by kernel_rfl) ⟨rfl, ?_, ?_⟩
  · exact (((((R3.out.putO hbr _).putO hbr _).putO hbr _).putO hbr _).putO hbr _).putO hbr _
  · exact ((((((S3.out.on.other (Only.set _) (.inr hrn)).other (Only.set _) (.inr hrn)).other (Only.set _) (.inr hrn)).other (Only.set _) (.inr hrn)).other (Only.set _) (.inr hrn)).other (Only.set _) (.inr hrn))
set_option maxHeartbeats 1000000 in
set_option maxRecDepth 100000 in
theorem fparse_no3 (v : Int) (sp : Bool) (b n : Nat) (m : Rd) (c q l0 : Int) (s : List UInt8) (w : World) (h : RdAt w b m)
    (LT : Hid (∀ w, Calls Try.prog 75 #[.int .i64 v] w fun e w' => e = .returned (.int .i64 n) ∧ w = w'))
    (FA : Hid (∀ w, RdAt w b m → Calls Try.prog 56 #[.pointer (some ⟨b, 0, none⟩)] w fun e w' => e = .returned (.agg #[.int .i64 c, .int .i64 q]) ∧ Below w.heap.size w w'))
    (LE : Hid (∀ w, RdAt w b m → Calls Try.prog 99 #[.pointer (some ⟨b, 0, none⟩)] w fun e w' => e = .returned (.int .i64 l0) ∧ Below w.heap.size w w'))
    (PK : Hid (∀ w, RdAt w b m → Calls Try.prog 123 #[.pointer (some ⟨b, 0, none⟩), .int .i64 1] w fun e w' => e = .returned (.string ⟨s.toArray⟩) ∧ Below w.heap.size w w'))
    (h0 : ((n : Int) == 0) = false) (h1 : (c != 0) = false) (h2 : (l0 == 0) = false) (h3 : (s == [0]) = true)
    : Calls Try.prog 89 #[.int .i64 v, .pointer (some ⟨b, 0, none⟩), .bool sp] w (FParse b m zeroF false w) := by
  have hlt := h.lt
  have hbr : b ≠ w.heap.size := by omega
  have hrn : w.heap.size ≤ w.heap.size := Nat.le_refl _
  have BD := Lib.hid (fun w => bad_any c q w)
  rw [h1] at BD
  have S0 : Hid (ST w (w.alloc (.cells #[.string ⟨#[]⟩, .int .u8 0, .int .u8 0, .int .u8 0, .string ⟨#[]⟩, .int .i64 0] 47)) b w.heap.size _ 47 w.heap.size _ 47) := Lib.hid ⟨at_a0 _ _ _, at_a0 _ _ _, Only.of_below ((Below.refl _ _).alloc (Nat.le_refl _) _)⟩
  have R0 := Lib.hid (h.alloc (.cells #[.string ⟨#[]⟩, .int .u8 0, .int .u8 0, .int .u8 0, .string ⟨#[]⟩, .int .i64 0] 47))
  clear h
  unfold FParse frV frR zeroF
  go_enter Try.func89, Try.ntmps89
  go_wp2_with (first | (go_at_call 75; (with_reducible refine (LT.out _).mono ?_); rintro e wx ⟨rfl, rfl⟩; skip) | (go_at_call 56; (with_reducible refine (FA.out _ R0.out).mono ?_); rintro e w1 ⟨rfl, hb1⟩; have S1 := Lib.hid (S0.out.below hb1); have R1 := Lib.hid (R0.out.below hb1); obtain ⟨z10, z11, z12, z13, z14, z15⟩ := cells6 (S1.out.zr); obtain ⟨z1f0, z1f1, z1f2, z1f3, z1f4, z1f5⟩ := frees6 (S1.out.zr); clear hb1) | (go_at_call 16; (with_reducible refine (BD.out _).mono ?_); rintro e w2 ⟨rfl, hb2⟩; have S2 := Lib.hid (S1.out.below hb2); have R2 := Lib.hid (R1.out.below hb2); obtain ⟨z20, z21, z22, z23, z24, z25⟩ := cells6 (S2.out.zr); obtain ⟨z2f0, z2f1, z2f2, z2f3, z2f4, z2f5⟩ := frees6 (S2.out.zr); clear hb2) | (go_at_call 99; (with_reducible refine (LE.out _ R2.out).mono ?_); rintro e w3 ⟨rfl, hb3⟩; have S3 := Lib.hid (S2.out.below hb3); have R3 := Lib.hid (R2.out.below hb3); obtain ⟨z30, z31, z32, z33, z34, z35⟩ := cells6 (S3.out.zr); obtain ⟨z3f0, z3f1, z3f2, z3f3, z3f4, z3f5⟩ := frees6 (S3.out.zr); clear hb3) | (go_at_call 123; (with_reducible refine (PK.out _ R3.out).mono ?_); rintro e w4 ⟨rfl, hb4⟩; have S4 := Lib.hid (S3.out.below hb4); have R4 := Lib.hid (R3.out.below hb4); obtain ⟨z40, z41, z42, z43, z44, z45⟩ := cells6 (S4.out.zr); obtain ⟨z4f0, z4f1, z4f2, z4f3, z4f4, z4f5⟩ := frees6 (S4.out.zr); clear hb4))
  refine end_cell_tmp rfl rfl rfl (store6 S4.out.zr rfl) Try.underlying47 rfl (by kernel_rfl) ⟨rfl, ?_, ?_⟩
  · exact (((((R4.out.putO hbr _).putO hbr _).putO hbr _).putO hbr _).putO hbr _).putO hbr _
  · exact ((((((S4.out.on.other (Only.set _) (.inr hrn)).other (Only.set _) (.inr hrn)).other (Only.set _) (.inr hrn)).other (Only.set _) (.inr hrn)).other (Only.set _) (.inr hrn)).other (Only.set _) (.inr hrn))
set_option maxHeartbeats 4000000 in
set_option maxRecDepth 100000 in
theorem fparse_200 (b : Nat) (m m1 m2 m3 m4 m5 m6 mR : Rd) (q0 l0 at0 at2 c5 q5 c p : Int) (wn many : Nat) (s id data bo : List UInt8) (st fm fm' gr : UInt8) (fR : Fr) (ok sp : Bool) (w : World) (h : RdAt w b m)
    (LT : Hid (∀ w, Calls Try.prog 75 #[.int .i64 2] w fun e w' => e = .returned (.int .i64 3) ∧ w = w'))
    (FA : Hid (∀ w, RdAt w b m → Calls Try.prog 56 #[.pointer (some ⟨b, 0, none⟩)] w fun e w' => e = .returned (.agg #[.int .i64 0, .int .i64 q0]) ∧ Below w.heap.size w w'))
    (LE : Hid (∀ w, RdAt w b m → Calls Try.prog 99 #[.pointer (some ⟨b, 0, none⟩)] w fun e w' => e = .returned (.int .i64 l0) ∧ Below w.heap.size w w'))
    (PK : Hid (∀ w, RdAt w b m → Calls Try.prog 123 #[.pointer (some ⟨b, 0, none⟩), .int .i64 1] w fun e w' => e = .returned (.string ⟨s.toArray⟩) ∧ Below w.heap.size w w'))
    (hl : (l0 == 0) = false) (hs : (s == [0]) = false)
    (AT0 : Hid (∀ w, RdAt w b m → Calls Try.prog 98 #[.pointer (some ⟨b, 0, none⟩)] w fun e w' => e = .returned (.int .i64 at0) ∧ w = w'))
    (T1 : Hid (∀ w, RdAt w b m → Calls Try.prog 54 #[.pointer (some ⟨b, 0, none⟩), .int .i64 3] w fun e w' => e = .returned (.string ⟨id.toArray⟩) ∧ RdAt w' b m1 ∧ Only b w w'))
    (WR : Hid (∀ w, Calls Try.prog 124 #[.string ⟨id.toArray⟩] w fun e w' => e = .returned (.int .i64 wn) ∧ w = w'))
    (hbad : ¬ (wn : Int) < id.length) (E2 : m1 = m2)
    (SZ : Hid (∀ w, RdAt w b m2 → Calls Try.prog 125 #[.int .i64 2, .pointer (some ⟨b, 0, none⟩)] w fun e w' => e = .returned (.int .i64 many) ∧ RdAt w' b m3 ∧ Only b w w'))
    (E4 : m3 = m4) (E5 : st = 0) (E6 : fm = 0)
    (EF : fm = fm')
    (AT2 : Hid (∀ w, RdAt w b m4 → Calls Try.prog 98 #[.pointer (some ⟨b, 0, none⟩)] w fun e w' => e = .returned (.int .i64 at2) ∧ w = w'))
    (T5 : Hid (∀ w, RdAt w b m4 → Calls Try.prog 54 #[.pointer (some ⟨b, 0, none⟩), .int .i64 many] w fun e w' => e = .returned (.string ⟨data.toArray⟩) ∧ RdAt w' b m5 ∧ Only b w w'))
    (FA5 : Hid (∀ w, RdAt w b m5 → Calls Try.prog 56 #[.pointer (some ⟨b, 0, none⟩)] w fun e w' => e = .returned (.agg #[.int .i64 c5, .int .i64 q5]) ∧ Below w.heap.size w w'))
    (FI : Hid (∀ pb w, w.heap[pb]? = some (.cells (frC id st fm' 0 [] at0) 47 (0, 0)) → Calls Try.prog 126 #[.pointer (some ⟨pb, 0, none⟩), .int .i64 2, .string ⟨data.toArray⟩, .int .i64 at2] w (FillSays pb id st fm' gr bo at0 c p w)))
    (FL2 : Hid (∀ w, RdAt w b m5 → Calls Try.prog 94 #[.pointer (some ⟨b, 0, none⟩), .int .i64 c, .int .i64 p] w fun e w' => e = .returned (.tuple #[]) ∧ RdAt w' b m6 ∧ Only b w w'))
    (HC : (c5 ≠ 0 ∧ mR = m5 ∧ fR = zeroF ∧ ok = false) ∨ (c5 = 0 ∧ ((c ≠ 0 ∧ mR = m6 ∧ fR = zeroF ∧ ok = false) ∨ (c = 0 ∧ mR = m5 ∧ fR = ⟨id, st, fm', gr, bo, at0⟩ ∧ ok = true))))
    : Calls Try.prog 89 #[.int .i64 2, .pointer (some ⟨b, 0, none⟩), .bool sp] w (FParse b mR fR ok w) := by
  subst E2
  subst E4 E5 E6
  subst EF
  have hlt := h.lt
  obtain ⟨rb, hR⟩ : ∃ x, x = w.heap.size := ⟨_, rfl⟩
  have HR := Lib.hid hR
  have BD := Lib.hid (fun w => bad_any 0 q0 w)
  rw [show ((0 : Int) != 0) = false by rfl] at BD
  have BD5 := Lib.hid (fun w => bad_any c5 q5 w)
  have S0 : Hid (ST w (w.alloc (.cells #[.string ⟨#[]⟩, .int .u8 0, .int .u8 0, .int .u8 0, .string ⟨#[]⟩, .int .i64 0] 47)) b w.heap.size _ 47 w.heap.size _ 47) := Lib.hid ⟨at_a0 _ _ _, at_a0 _ _ _, Only.of_below ((Below.refl _ _).alloc (Nat.le_refl _) _)⟩
  have R0 := Lib.hid (h.alloc (.cells #[.string ⟨#[]⟩, .int .u8 0, .int .u8 0, .int .u8 0, .string ⟨#[]⟩, .int .i64 0] 47))
  clear h
  go_enter Try.func89, Try.ntmps89
  go_upto_region 4 with (first | (go_at_call 75; (with_reducible refine (LT.out _).mono ?_); rintro e wx ⟨rfl, rfl⟩; skip) | (go_at_call 56; (with_reducible refine (FA.out _ R0.out).mono ?_); rintro e w1 ⟨rfl, hb1⟩; have S1 := Lib.hid (S0.out.below hb1); have R1 := Lib.hid (R0.out.below hb1); obtain ⟨z10, z11, z12, z13, z14, z15⟩ := cells6 (S1.out.zr); obtain ⟨z1f0, z1f1, z1f2, z1f3, z1f4, z1f5⟩ := frees6 (S1.out.zr); clear hb1) | (go_at_call 16; (with_reducible refine (BD.out _).mono ?_); rintro e w2 ⟨rfl, hb2⟩; have S2 := Lib.hid (S1.out.below hb2); have R2 := Lib.hid (R1.out.below hb2); obtain ⟨z20, z21, z22, z23, z24, z25⟩ := cells6 (S2.out.zr); obtain ⟨z2f0, z2f1, z2f2, z2f3, z2f4, z2f5⟩ := frees6 (S2.out.zr); clear hb2) | (go_at_call 99; (with_reducible refine (LE.out _ R2.out).mono ?_); rintro e w3 ⟨rfl, hb3⟩; have S3 := Lib.hid (S2.out.below hb3); have R3 := Lib.hid (R2.out.below hb3); obtain ⟨z30, z31, z32, z33, z34, z35⟩ := cells6 (S3.out.zr); obtain ⟨z3f0, z3f1, z3f2, z3f3, z3f4, z3f5⟩ := frees6 (S3.out.zr); clear hb3) | (go_at_call 123; (with_reducible refine (PK.out _ R3.out).mono ?_); rintro e w4 ⟨rfl, hb4⟩; have S4 := Lib.hid (S3.out.below hb4); have R4 := Lib.hid (R3.out.below hb4); obtain ⟨z40, z41, z42, z43, z44, z45⟩ := cells6 (S4.out.zr); obtain ⟨z4f0, z4f1, z4f2, z4f3, z4f4, z4f5⟩ := frees6 (S4.out.zr); clear hb4))
  generalize hrb0 : w.heap.size = rb at *
  have hrn : w.heap.size ≤ rb := Nat.le_of_eq hrb0
  have hrb : rb ≠ b := by omega
  have hbr : b ≠ rb := by omega
  have HRB := Lib.hid hrb0
  clear hrb0 S0 S1 S2 S3 R0 R1 R2 R3 BD LT FA LE PK hl hs z10 z1f0 z11 z1f1 z12 z1f2 z13 z1f3 z14 z1f4 z15 z1f5 z20 z2f0 z21 z2f1 z22 z2f2 z23 z2f3 z24 z2f4 z25 z2f5 z30 z3f0 z31 z3f1 z32 z3f2 z33 z3f3 z34 z3f4 z35 z3f5 z40 z4f0 z41 z4f1 z42 z4f2 z43 z4f3 z44 z4f4 z45 z4f5
  go_upto_region 5 with (first | (go_at_call 98; (with_reducible refine (AT0.out _ R4.out).mono ?_); rintro e wx ⟨rfl, rfl⟩; skip))
  have S5 : Hid (ST w (w4.alloc (.cells #[.string ⟨#[]⟩, .int .u8 0, .int .u8 0, .int .u8 0, .string ⟨#[]⟩, .int .i64 at0] 47)) b w4.heap.size #[.string ⟨#[]⟩, .int .u8 0, .int .u8 0, .int .u8 0, .string ⟨#[]⟩, .int .i64 at0] 47 rb #[.string ⟨#[]⟩, .int .u8 0, .int .u8 0, .int .u8 0, .string ⟨#[]⟩, .int .i64 0] 47) := Lib.hid ⟨at_a0 _ _ _, block_below S4.out.zr ((Below.refl _ _).alloc (Nat.le_refl _) _), S4.out.on.trans (Only.of_below ((Below.refl _ _).alloc (Nat.le_refl _) _))⟩
  have R5 := Lib.hid (R4.out.alloc (.cells #[.string ⟨#[]⟩, .int .u8 0, .int .u8 0, .int .u8 0, .string ⟨#[]⟩, .int .i64 at0] 47))
  have h81 := (Array.getElem?_eq_some_iff.1 S4.out.zr).1
  have h82 := R4.out.lt
  have h83 := S4.out.on.size
  generalize w4.alloc (.cells #[.string ⟨#[]⟩, .int .u8 0, .int .u8 0, .int .u8 0, .string ⟨#[]⟩, .int .i64 at0] 47) = w5 at *
  generalize w4.heap.size = pb at *
  have hpb : pb ≠ b := by omega
  have hbp : b ≠ pb := by omega
  have hrp : rb ≠ pb := by omega
  have hpr : pb ≠ rb := by omega
  have hpn := h83
  clear h81 h82 h83 S4 R4 AT0
  obtain ⟨b50, b51, b52, b53, b54, b55⟩ := cells6 (S5.out.fr); obtain ⟨b5f0, b5f1, b5f2, b5f3, b5f4, b5f5⟩ := frees6 (S5.out.fr)
  go_upto_region 6 with (first | (go_at_call 54; (with_reducible refine (T1.out _ R5.out).mono ?_); rintro e w6 ⟨rfl, r6, o6⟩; have R6 := Lib.hid r6; have S6 := Lib.hid (S5.out.read o6 hpb hrb (.inl rfl)); obtain ⟨b60, b61, b62, b63, b64, b65⟩ := cells6 (S6.out.fr); obtain ⟨b6f0, b6f1, b6f2, b6f3, b6f4, b6f5⟩ := frees6 (S6.out.fr); obtain ⟨z60, z61, z62, z63, z64, z65⟩ := cells6 (S6.out.zr); obtain ⟨z6f0, z6f1, z6f2, z6f3, z6f4, z6f5⟩ := frees6 (S6.out.zr); clear r6 o6))
  have S7 : Hid (ST w (w6.setCell ⟨pb, 0, none⟩ (.string ⟨id.toArray⟩)) b pb #[.string ⟨id.toArray⟩, .int .u8 0, .int .u8 0, .int .u8 0, .string ⟨#[]⟩, .int .i64 at0] 47 rb #[.string ⟨#[]⟩, .int .u8 0, .int .u8 0, .int .u8 0, .string ⟨#[]⟩, .int .i64 0] 47) := Lib.hid (S6.out.put 0 (.string ⟨id.toArray⟩) hrp (.inr hpn))
  have R7 := Lib.hid (R6.out.putO hbp (.string ⟨id.toArray⟩) (j := 0))
  generalize (w6.setCell ⟨pb, 0, none⟩ (.string ⟨id.toArray⟩)) = w7 at *
  obtain ⟨b70, b71, b72, b73, b74, b75⟩ := cells6 (S7.out.fr); obtain ⟨b7f0, b7f1, b7f2, b7f3, b7f4, b7f5⟩ := frees6 (S7.out.fr)
  clear S5 S6 R5 R6 T1 b50 b5f0 b51 b5f1 b52 b5f2 b53 b5f3 b54 b5f4 b55 b5f5 b60 b6f0 b61 b6f1 b62 b6f2 b63 b6f3 b64 b6f4 b65 b6f5
  go_upto_region 9 with (first | (go_at_call 124; (with_reducible refine (WR.out _).mono ?_); rintro e wx ⟨rfl, rfl⟩; skip))
  go_upto_region 16 with (first | (go_at_call 125; (with_reducible refine (SZ.out _ R7.out).mono ?_); rintro e w9 ⟨rfl, r9, o9⟩; have R9 := Lib.hid r9; have S9 := Lib.hid (S7.out.read o9 hpb hrb (.inl rfl)); obtain ⟨b90, b91, b92, b93, b94, b95⟩ := cells6 (S9.out.fr); obtain ⟨b9f0, b9f1, b9f2, b9f3, b9f4, b9f5⟩ := frees6 (S9.out.fr); obtain ⟨z90, z91, z92, z93, z94, z95⟩ := cells6 (S9.out.zr); obtain ⟨z9f0, z9f1, z9f2, z9f3, z9f4, z9f5⟩ := frees6 (S9.out.zr); clear r9 o9))
  rcases HC with ⟨hc5, rfl, rfl, rfl⟩ | ⟨rfl, HC⟩
  · rw [show (c5 != 0) = true by simpa using hc5] at BD5
    go_wp2_with (first | (go_at_call 98; (with_reducible refine (AT2.out _ R9.out).mono ?_); rintro e wx ⟨rfl, rfl⟩; skip) | (go_at_call 54; (with_reducible refine (T5.out _ R9.out).mono ?_); rintro e w13 ⟨rfl, r13, o13⟩; have R13 := Lib.hid r13; have S13 := Lib.hid (S9.out.read o13 hpb hrb (.inl rfl)); obtain ⟨b130, b131, b132, b133, b134, b135⟩ := cells6 (S13.out.fr); obtain ⟨b13f0, b13f1, b13f2, b13f3, b13f4, b13f5⟩ := frees6 (S13.out.fr); obtain ⟨z130, z131, z132, z133, z134, z135⟩ := cells6 (S13.out.zr); obtain ⟨z13f0, z13f1, z13f2, z13f3, z13f4, z13f5⟩ := frees6 (S13.out.zr); clear r13 o13) | (go_at_call 56; (with_reducible refine (FA5.out _ R13.out).mono ?_); rintro e w14 ⟨rfl, hb14⟩; have S14 := Lib.hid (S13.out.below hb14); have R14 := Lib.hid (R13.out.below hb14); obtain ⟨b140, b141, b142, b143, b144, b145⟩ := cells6 (S14.out.fr); obtain ⟨b14f0, b14f1, b14f2, b14f3, b14f4, b14f5⟩ := frees6 (S14.out.fr); obtain ⟨z140, z141, z142, z143, z144, z145⟩ := cells6 (S14.out.zr); obtain ⟨z14f0, z14f1, z14f2, z14f3, z14f4, z14f5⟩ := frees6 (S14.out.zr); clear hb14) | (go_at_call 16; (with_reducible refine (BD5.out _).mono ?_); rintro e w15 ⟨rfl, hb15⟩; have S15 := Lib.hid (S14.out.below hb15); have R15 := Lib.hid (R14.out.below hb15); obtain ⟨b150, b151, b152, b153, b154, b155⟩ := cells6 (S15.out.fr); obtain ⟨b15f0, b15f1, b15f2, b15f3, b15f4, b15f5⟩ := frees6 (S15.out.fr); obtain ⟨z150, z151, z152, z153, z154, z155⟩ := cells6 (S15.out.zr); obtain ⟨z15f0, z15f1, z15f2, z15f3, z15f4, z15f5⟩ := frees6 (S15.out.zr); clear hb15))
    refine end_cell_tmp rfl rfl rfl (store6 S15.out.zr rfl) Try.underlying47 rfl (by kernel_rfl) ⟨rfl, ?_, ?_⟩
    · exact (((((R15.out.putO hbr _).putO hbr _).putO hbr _).putO hbr _).putO hbr _).putO hbr _
    · exact ((((((S15.out.on.other (Only.set _) (.inr hrn)).other (Only.set _) (.inr hrn)).other (Only.set _) (.inr hrn)).other (Only.set _) (.inr hrn)).other (Only.set _) (.inr hrn)).other (Only.set _) (.inr hrn))
  rw [show ((0 : Int) != 0) = false by rfl] at BD5
  go_upto_region 20 with (first | (go_at_call 98; (with_reducible refine (AT2.out _ R9.out).mono ?_); rintro e wx ⟨rfl, rfl⟩; skip) | (go_at_call 54; (with_reducible refine (T5.out _ R9.out).mono ?_); rintro e w13 ⟨rfl, r13, o13⟩; have R13 := Lib.hid r13; have S13 := Lib.hid (S9.out.read o13 hpb hrb (.inl rfl)); obtain ⟨b130, b131, b132, b133, b134, b135⟩ := cells6 (S13.out.fr); obtain ⟨b13f0, b13f1, b13f2, b13f3, b13f4, b13f5⟩ := frees6 (S13.out.fr); obtain ⟨z130, z131, z132, z133, z134, z135⟩ := cells6 (S13.out.zr); obtain ⟨z13f0, z13f1, z13f2, z13f3, z13f4, z13f5⟩ := frees6 (S13.out.zr); clear r13 o13) | (go_at_call 56; (with_reducible refine (FA5.out _ R13.out).mono ?_); rintro e w14 ⟨rfl, hb14⟩; have S14 := Lib.hid (S13.out.below hb14); have R14 := Lib.hid (R13.out.below hb14); obtain ⟨b140, b141, b142, b143, b144, b145⟩ := cells6 (S14.out.fr); obtain ⟨b14f0, b14f1, b14f2, b14f3, b14f4, b14f5⟩ := frees6 (S14.out.fr); obtain ⟨z140, z141, z142, z143, z144, z145⟩ := cells6 (S14.out.zr); obtain ⟨z14f0, z14f1, z14f2, z14f3, z14f4, z14f5⟩ := frees6 (S14.out.zr); clear hb14) | (go_at_call 16; (with_reducible refine (BD5.out _).mono ?_); rintro e w15 ⟨rfl, hb15⟩; have S15 := Lib.hid (S14.out.below hb15); have R15 := Lib.hid (R14.out.below hb15); obtain ⟨b150, b151, b152, b153, b154, b155⟩ := cells6 (S15.out.fr); obtain ⟨b15f0, b15f1, b15f2, b15f3, b15f4, b15f5⟩ := frees6 (S15.out.fr); obtain ⟨z150, z151, z152, z153, z154, z155⟩ := cells6 (S15.out.zr); obtain ⟨z15f0, z15f1, z15f2, z15f3, z15f4, z15f5⟩ := frees6 (S15.out.zr); clear hb15))
  have HF := Lib.hid (show w15.heap[pb]? = some (.cells (frC id 0 0 0 [] at0) 47 (0, 0)) from S15.out.fr)
  have BD2 := Lib.hid (fun w => bad_any c p w)
  rcases HC with ⟨hc, rfl, rfl, rfl⟩ | ⟨rfl, rfl, rfl, rfl⟩
  · rw [show (c != 0) = true by simpa using hc] at BD2
    go_wp2_with (first | (go_at_call 126; (with_reducible refine (FI.out pb _ HF.out).mono ?_); rintro e w16 ⟨rfl, o16, f16⟩; have R16 := Lib.hid (R15.out.only o16 hbp); have S16 : Hid (ST w w16 b rb #[.string ⟨#[]⟩, .int .u8 0, .int .u8 0, .int .u8 0, .string ⟨#[]⟩, .int .i64 0] 47 rb #[.string ⟨#[]⟩, .int .u8 0, .int .u8 0, .int .u8 0, .string ⟨#[]⟩, .int .i64 0] 47) := Lib.hid ⟨block_only S15.out.zr o16 hrp, block_only S15.out.zr o16 hrp, S15.out.on.other o16 (.inr hpn)⟩; clear o16 f16) | (go_at_call 16; (with_reducible refine (BD2.out _).mono ?_); rintro e w17 ⟨rfl, hb17⟩; have S17 := Lib.hid ((S16.out.alloc _).below hb17); have R17 := Lib.hid ((R16.out.alloc _).below hb17); obtain ⟨z170, z171, z172, z173, z174, z175⟩ := cells6 (S17.out.zr); obtain ⟨z17f0, z17f1, z17f2, z17f3, z17f4, z17f5⟩ := frees6 (S17.out.zr); have X17 := block_below (at_a0 w16 _ _) hb17; obtain ⟨x0, x1⟩ := cells2 (X17); clear hb17) | (go_at_call 94; (with_reducible refine (FL2.out _ R17.out).mono ?_); rintro e w18 ⟨rfl, r18, o18⟩; have R18 := Lib.hid r18; have S18 := Lib.hid (S17.out.read o18 hrb hrb (.inl rfl)); obtain ⟨z180, z181, z182, z183, z184, z185⟩ := cells6 (S18.out.zr); obtain ⟨z18f0, z18f1, z18f2, z18f3, z18f4, z18f5⟩ := frees6 (S18.out.zr); clear r18 o18))
    refine end_cell_tmp rfl rfl rfl (store6 S18.out.zr rfl) Try.underlying47 rfl (by kernel_rfl) ⟨rfl, ?_, ?_⟩
    · exact (((((R18.out.putO hbr _).putO hbr _).putO hbr _).putO hbr _).putO hbr _).putO hbr _
    · exact ((((((S18.out.on.other (Only.set _) (.inr hrn)).other (Only.set _) (.inr hrn)).other (Only.set _) (.inr hrn)).other (Only.set _) (.inr hrn)).other (Only.set _) (.inr hrn)).other (Only.set _) (.inr hrn))
  · rw [show ((0 : Int) != 0) = false by rfl] at BD2
    go_wp2_with (first | (go_at_call 126; (with_reducible refine (FI.out pb _ HF.out).mono ?_); rintro e w16 ⟨rfl, o16, f16⟩; have R16 := Lib.hid (R15.out.only o16 hbp); have S16 : Hid (ST w w16 b pb #[.string ⟨id.toArray⟩, .int .u8 (0 : UInt8).toNat, .int .u8 (0 : UInt8).toNat, .int .u8 gr.toNat, .string ⟨bo.toArray⟩, .int .i64 at0] 47 rb #[.string ⟨#[]⟩, .int .u8 0, .int .u8 0, .int .u8 0, .string ⟨#[]⟩, .int .i64 0] 47) := Lib.hid ⟨f16 rfl, block_only S15.out.zr o16 hrp, S15.out.on.other o16 (.inr hpn)⟩; clear o16 f16) | (go_at_call 16; (with_reducible refine (BD2.out _).mono ?_); rintro e w17 ⟨rfl, hb17⟩; have S17 := Lib.hid ((S16.out.alloc _).below hb17); have R17 := Lib.hid ((R16.out.alloc _).below hb17); obtain ⟨b170, b171, b172, b173, b174, b175⟩ := cells6 (S17.out.fr); obtain ⟨b17f0, b17f1, b17f2, b17f3, b17f4, b17f5⟩ := frees6 (S17.out.fr); obtain ⟨z170, z171, z172, z173, z174, z175⟩ := cells6 (S17.out.zr); obtain ⟨z17f0, z17f1, z17f2, z17f3, z17f4, z17f5⟩ := frees6 (S17.out.zr); have X17 := block_below (at_a0 w16 _ _) hb17; obtain ⟨x0, x1⟩ := cells2 (X17); clear hb17))
    refine end_cell_tmp rfl rfl rfl (store6 S17.out.zr rfl) Try.underlying47 rfl (by kernel_rfl) ⟨rfl, ?_, ?_⟩
    · exact (((((R17.out.putO hbr _).putO hbr _).putO hbr _).putO hbr _).putO hbr _).putO hbr _
    · exact ((((((S17.out.on.other (Only.set _) (.inr hrn)).other (Only.set _) (.inr hrn)).other (Only.set _) (.inr hrn)).other (Only.set _) (.inr hrn)).other (Only.set _) (.inr hrn)).other (Only.set _) (.inr hrn))
set_option maxHeartbeats 4000000 in
set_option maxRecDepth 100000 in
theorem fparse_300 (b : Nat) (m m1 m2 m3 m4 m5 m6 mR : Rd) (q0 l0 at0 at2 c5 q5 c p : Int) (wn many : Nat) (s id data bo : List UInt8) (st fm fm' gr : UInt8) (fR : Fr) (ok sp : Bool) (w : World) (h : RdAt w b m)
    (LT : Hid (∀ w, Calls Try.prog 75 #[.int .i64 3] w fun e w' => e = .returned (.int .i64 4) ∧ w = w'))
    (FA : Hid (∀ w, RdAt w b m → Calls Try.prog 56 #[.pointer (some ⟨b, 0, none⟩)] w fun e w' => e = .returned (.agg #[.int .i64 0, .int .i64 q0]) ∧ Below w.heap.size w w'))
    (LE : Hid (∀ w, RdAt w b m → Calls Try.prog 99 #[.pointer (some ⟨b, 0, none⟩)] w fun e w' => e = .returned (.int .i64 l0) ∧ Below w.heap.size w w'))
    (PK : Hid (∀ w, RdAt w b m → Calls Try.prog 123 #[.pointer (some ⟨b, 0, none⟩), .int .i64 1] w fun e w' => e = .returned (.string ⟨s.toArray⟩) ∧ Below w.heap.size w w'))
    (hl : (l0 == 0) = false) (hs : (s == [0]) = false)
    (AT0 : Hid (∀ w, RdAt w b m → Calls Try.prog 98 #[.pointer (some ⟨b, 0, none⟩)] w fun e w' => e = .returned (.int .i64 at0) ∧ w = w'))
    (T1 : Hid (∀ w, RdAt w b m → Calls Try.prog 54 #[.pointer (some ⟨b, 0, none⟩), .int .i64 4] w fun e w' => e = .returned (.string ⟨id.toArray⟩) ∧ RdAt w' b m1 ∧ Only b w w'))
    (WR : Hid (∀ w, Calls Try.prog 124 #[.string ⟨id.toArray⟩] w fun e w' => e = .returned (.int .i64 wn) ∧ w = w'))
    (hbad : ¬ (wn : Int) < id.length) (E2 : m1 = m2)
    (SZ : Hid (∀ w, RdAt w b m2 → Calls Try.prog 125 #[.int .i64 3, .pointer (some ⟨b, 0, none⟩)] w fun e w' => e = .returned (.int .i64 many) ∧ RdAt w' b m3 ∧ Only b w w'))
    (B2 : Hid (∀ w, RdAt w b m3 → Calls Try.prog 93 #[.pointer (some ⟨b, 0, none⟩), .int .i64 2] w fun e w' => e = .returned (.int .u64 ((st.toNat * 256 + fm.toNat : Nat) : Int)) ∧ RdAt w' b m4 ∧ Only b w w'))
    (EF : fm = fm')
    (AT2 : Hid (∀ w, RdAt w b m4 → Calls Try.prog 98 #[.pointer (some ⟨b, 0, none⟩)] w fun e w' => e = .returned (.int .i64 at2) ∧ w = w'))
    (T5 : Hid (∀ w, RdAt w b m4 → Calls Try.prog 54 #[.pointer (some ⟨b, 0, none⟩), .int .i64 many] w fun e w' => e = .returned (.string ⟨data.toArray⟩) ∧ RdAt w' b m5 ∧ Only b w w'))
    (FA5 : Hid (∀ w, RdAt w b m5 → Calls Try.prog 56 #[.pointer (some ⟨b, 0, none⟩)] w fun e w' => e = .returned (.agg #[.int .i64 c5, .int .i64 q5]) ∧ Below w.heap.size w w'))
    (FI : Hid (∀ pb w, w.heap[pb]? = some (.cells (frC id st fm' 0 [] at0) 47 (0, 0)) → Calls Try.prog 126 #[.pointer (some ⟨pb, 0, none⟩), .int .i64 3, .string ⟨data.toArray⟩, .int .i64 at2] w (FillSays pb id st fm' gr bo at0 c p w)))
    (FL2 : Hid (∀ w, RdAt w b m5 → Calls Try.prog 94 #[.pointer (some ⟨b, 0, none⟩), .int .i64 c, .int .i64 p] w fun e w' => e = .returned (.tuple #[]) ∧ RdAt w' b m6 ∧ Only b w w'))
    (HC : (c5 ≠ 0 ∧ mR = m5 ∧ fR = zeroF ∧ ok = false) ∨ (c5 = 0 ∧ ((c ≠ 0 ∧ mR = m6 ∧ fR = zeroF ∧ ok = false) ∨ (c = 0 ∧ mR = m5 ∧ fR = ⟨id, st, fm', gr, bo, at0⟩ ∧ ok = true))))
    : Calls Try.prog 89 #[.int .i64 3, .pointer (some ⟨b, 0, none⟩), .bool sp] w (FParse b mR fR ok w) := by
  subst E2
  subst EF
  have hlt := h.lt
  obtain ⟨rb, hR⟩ : ∃ x, x = w.heap.size := ⟨_, rfl⟩
  have HR := Lib.hid hR
  have BD := Lib.hid (fun w => bad_any 0 q0 w)
  rw [show ((0 : Int) != 0) = false by rfl] at BD
  have BD5 := Lib.hid (fun w => bad_any c5 q5 w)
  have S0 : Hid (ST w (w.alloc (.cells #[.string ⟨#[]⟩, .int .u8 0, .int .u8 0, .int .u8 0, .string ⟨#[]⟩, .int .i64 0] 47)) b w.heap.size _ 47 w.heap.size _ 47) := Lib.hid ⟨at_a0 _ _ _, at_a0 _ _ _, Only.of_below ((Below.refl _ _).alloc (Nat.le_refl _) _)⟩
  have R0 := Lib.hid (h.alloc (.cells #[.string ⟨#[]⟩, .int .u8 0, .int .u8 0, .int .u8 0, .string ⟨#[]⟩, .int .i64 0] 47))
  clear h
  have hst := byte_le st
  have hfm := byte_le fm
  go_enter Try.func89, Try.ntmps89
  go_upto_region 4 with (first | (go_at_call 75; (with_reducible refine (LT.out _).mono ?_); rintro e wx ⟨rfl, rfl⟩; skip) | (go_at_call 56; (with_reducible refine (FA.out _ R0.out).mono ?_); rintro e w1 ⟨rfl, hb1⟩; have S1 := Lib.hid (S0.out.below hb1); have R1 := Lib.hid (R0.out.below hb1); obtain ⟨z10, z11, z12, z13, z14, z15⟩ := cells6 (S1.out.zr); obtain ⟨z1f0, z1f1, z1f2, z1f3, z1f4, z1f5⟩ := frees6 (S1.out.zr); clear hb1) | (go_at_call 16; (with_reducible refine (BD.out _).mono ?_); rintro e w2 ⟨rfl, hb2⟩; have S2 := Lib.hid (S1.out.below hb2); have R2 := Lib.hid (R1.out.below hb2); obtain ⟨z20, z21, z22, z23, z24, z25⟩ := cells6 (S2.out.zr); obtain ⟨z2f0, z2f1, z2f2, z2f3, z2f4, z2f5⟩ := frees6 (S2.out.zr); clear hb2) | (go_at_call 99; (with_reducible refine (LE.out _ R2.out).mono ?_); rintro e w3 ⟨rfl, hb3⟩; have S3 := Lib.hid (S2.out.below hb3); have R3 := Lib.hid (R2.out.below hb3); obtain ⟨z30, z31, z32, z33, z34, z35⟩ := cells6 (S3.out.zr); obtain ⟨z3f0, z3f1, z3f2, z3f3, z3f4, z3f5⟩ := frees6 (S3.out.zr); clear hb3) | (go_at_call 123; (with_reducible refine (PK.out _ R3.out).mono ?_); rintro e w4 ⟨rfl, hb4⟩; have S4 := Lib.hid (S3.out.below hb4); have R4 := Lib.hid (R3.out.below hb4); obtain ⟨z40, z41, z42, z43, z44, z45⟩ := cells6 (S4.out.zr); obtain ⟨z4f0, z4f1, z4f2, z4f3, z4f4, z4f5⟩ := frees6 (S4.out.zr); clear hb4))
  generalize hrb0 : w.heap.size = rb at *
  have hrn : w.heap.size ≤ rb := Nat.le_of_eq hrb0
  have hrb : rb ≠ b := by omega
  have hbr : b ≠ rb := by omega
  have HRB := Lib.hid hrb0
  clear hrb0 S0 S1 S2 S3 R0 R1 R2 R3 BD LT FA LE PK hl hs z10 z1f0 z11 z1f1 z12 z1f2 z13 z1f3 z14 z1f4 z15 z1f5 z20 z2f0 z21 z2f1 z22 z2f2 z23 z2f3 z24 z2f4 z25 z2f5 z30 z3f0 z31 z3f1 z32 z3f2 z33 z3f3 z34 z3f4 z35 z3f5 z40 z4f0 z41 z4f1 z42 z4f2 z43 z4f3 z44 z4f4 z45 z4f5
  go_upto_region 5 with (first | (go_at_call 98; (with_reducible refine (AT0.out _ R4.out).mono ?_); rintro e wx ⟨rfl, rfl⟩; skip))
  have S5 : Hid (ST w (w4.alloc (.cells #[.string ⟨#[]⟩, .int .u8 0, .int .u8 0, .int .u8 0, .string ⟨#[]⟩, .int .i64 at0] 47)) b w4.heap.size #[.string ⟨#[]⟩, .int .u8 0, .int .u8 0, .int .u8 0, .string ⟨#[]⟩, .int .i64 at0] 47 rb #[.string ⟨#[]⟩, .int .u8 0, .int .u8 0, .int .u8 0, .string ⟨#[]⟩, .int .i64 0] 47) := Lib.hid ⟨at_a0 _ _ _, block_below S4.out.zr ((Below.refl _ _).alloc (Nat.le_refl _) _), S4.out.on.trans (Only.of_below ((Below.refl _ _).alloc (Nat.le_refl _) _))⟩
  have R5 := Lib.hid (R4.out.alloc (.cells #[.string ⟨#[]⟩, .int .u8 0, .int .u8 0, .int .u8 0, .string ⟨#[]⟩, .int .i64 at0] 47))
  have h81 := (Array.getElem?_eq_some_iff.1 S4.out.zr).1
  have h82 := R4.out.lt
  have h83 := S4.out.on.size
  generalize w4.alloc (.cells #[.string ⟨#[]⟩, .int .u8 0, .int .u8 0, .int .u8 0, .string ⟨#[]⟩, .int .i64 at0] 47) = w5 at *
  generalize w4.heap.size = pb at *
  have hpb : pb ≠ b := by omega
  have hbp : b ≠ pb := by omega
  have hrp : rb ≠ pb := by omega
  have hpr : pb ≠ rb := by omega
  have hpn := h83
  clear h81 h82 h83 S4 R4 AT0
  obtain ⟨b50, b51, b52, b53, b54, b55⟩ := cells6 (S5.out.fr); obtain ⟨b5f0, b5f1, b5f2, b5f3, b5f4, b5f5⟩ := frees6 (S5.out.fr)
  go_upto_region 6 with (first | (go_at_call 54; (with_reducible refine (T1.out _ R5.out).mono ?_); rintro e w6 ⟨rfl, r6, o6⟩; have R6 := Lib.hid r6; have S6 := Lib.hid (S5.out.read o6 hpb hrb (.inl rfl)); obtain ⟨b60, b61, b62, b63, b64, b65⟩ := cells6 (S6.out.fr); obtain ⟨b6f0, b6f1, b6f2, b6f3, b6f4, b6f5⟩ := frees6 (S6.out.fr); obtain ⟨z60, z61, z62, z63, z64, z65⟩ := cells6 (S6.out.zr); obtain ⟨z6f0, z6f1, z6f2, z6f3, z6f4, z6f5⟩ := frees6 (S6.out.zr); clear r6 o6))
  have S7 : Hid (ST w (w6.setCell ⟨pb, 0, none⟩ (.string ⟨id.toArray⟩)) b pb #[.string ⟨id.toArray⟩, .int .u8 0, .int .u8 0, .int .u8 0, .string ⟨#[]⟩, .int .i64 at0] 47 rb #[.string ⟨#[]⟩, .int .u8 0, .int .u8 0, .int .u8 0, .string ⟨#[]⟩, .int .i64 0] 47) := Lib.hid (S6.out.put 0 (.string ⟨id.toArray⟩) hrp (.inr hpn))
  have R7 := Lib.hid (R6.out.putO hbp (.string ⟨id.toArray⟩) (j := 0))
  generalize (w6.setCell ⟨pb, 0, none⟩ (.string ⟨id.toArray⟩)) = w7 at *
  obtain ⟨b70, b71, b72, b73, b74, b75⟩ := cells6 (S7.out.fr); obtain ⟨b7f0, b7f1, b7f2, b7f3, b7f4, b7f5⟩ := frees6 (S7.out.fr)
  clear S5 S6 R5 R6 T1 b50 b5f0 b51 b5f1 b52 b5f2 b53 b5f3 b54 b5f4 b55 b5f5 b60 b6f0 b61 b6f1 b62 b6f2 b63 b6f3 b64 b6f4 b65 b6f5
  go_upto_region 9 with (first | (go_at_call 124; (with_reducible refine (WR.out _).mono ?_); rintro e wx ⟨rfl, rfl⟩; skip))
  go_upto_region 14 with (first | (go_at_call 125; (with_reducible refine (SZ.out _ R7.out).mono ?_); rintro e w9 ⟨rfl, r9, o9⟩; have R9 := Lib.hid r9; have S9 := Lib.hid (S7.out.read o9 hpb hrb (.inl rfl)); obtain ⟨b90, b91, b92, b93, b94, b95⟩ := cells6 (S9.out.fr); obtain ⟨b9f0, b9f1, b9f2, b9f3, b9f4, b9f5⟩ := frees6 (S9.out.fr); obtain ⟨z90, z91, z92, z93, z94, z95⟩ := cells6 (S9.out.zr); obtain ⟨z9f0, z9f1, z9f2, z9f3, z9f4, z9f5⟩ := frees6 (S9.out.zr); clear r9 o9) | (go_at_call 93; (with_reducible refine (B2.out _ R9.out).mono ?_); rintro e w10 ⟨rfl, r10, o10⟩; have R10 := Lib.hid r10; have S10 := Lib.hid (S9.out.read o10 hpb hrb (.inl rfl)); obtain ⟨b100, b101, b102, b103, b104, b105⟩ := cells6 (S10.out.fr); obtain ⟨b10f0, b10f1, b10f2, b10f3, b10f4, b10f5⟩ := frees6 (S10.out.fr); obtain ⟨z100, z101, z102, z103, z104, z105⟩ := cells6 (S10.out.zr); obtain ⟨z10f0, z10f1, z10f2, z10f3, z10f4, z10f5⟩ := frees6 (S10.out.zr); clear r10 o10))
  rw [show ((st.toNat : Int) * 256 + fm.toNat) / 256 = st.toNat by omega, show (fm.toNat : Int) % 256 = fm.toNat by omega]
  have S11 : Hid (ST w ((w10.setCell ⟨pb, 1, none⟩ (.int .u8 st.toNat)).setCell ⟨pb, 2, none⟩ (.int .u8 fm.toNat)) b pb #[.string ⟨id.toArray⟩, .int .u8 st.toNat, .int .u8 fm.toNat, .int .u8 0, .string ⟨#[]⟩, .int .i64 at0] 47 rb #[.string ⟨#[]⟩, .int .u8 0, .int .u8 0, .int .u8 0, .string ⟨#[]⟩, .int .i64 0] 47) := Lib.hid ((S10.out.put 1 (.int .u8 st.toNat) hrp (.inr hpn)).put 2 (.int .u8 fm.toNat) hrp (.inr hpn))
  have R11 := Lib.hid ((R10.out.putO hbp (.int .u8 st.toNat) (j := 1)).putO hbp (.int .u8 fm.toNat) (j := 2))
  generalize ((w10.setCell ⟨pb, 1, none⟩ (.int .u8 st.toNat)).setCell ⟨pb, 2, none⟩ (.int .u8 fm.toNat)) = w11 at *
  obtain ⟨b110, b111, b112, b113, b114, b115⟩ := cells6 (S11.out.fr); obtain ⟨b11f0, b11f1, b11f2, b11f3, b11f4, b11f5⟩ := frees6 (S11.out.fr)
  clear S7 S9 S10 R7 R9 R10 b70 b7f0 b71 b7f1 b72 b7f2 b73 b7f3 b74 b7f4 b75 b7f5 b90 b9f0 b91 b9f1 b92 b9f2 b93 b9f3 b94 b9f4 b95 b9f5 b100 b10f0 b101 b10f1 b102 b10f2 b103 b10f3 b104 b10f4 b105 b10f5
  go_upto_region 16 with fail
  rcases HC with ⟨hc5, rfl, rfl, rfl⟩ | ⟨rfl, HC⟩
  · rw [show (c5 != 0) = true by simpa using hc5] at BD5
    go_wp2_with (first | (go_at_call 98; (with_reducible refine (AT2.out _ R11.out).mono ?_); rintro e wx ⟨rfl, rfl⟩; skip) | (go_at_call 54; (with_reducible refine (T5.out _ R11.out).mono ?_); rintro e w13 ⟨rfl, r13, o13⟩; have R13 := Lib.hid r13; have S13 := Lib.hid (S11.out.read o13 hpb hrb (.inl rfl)); obtain ⟨b130, b131, b132, b133, b134, b135⟩ := cells6 (S13.out.fr); obtain ⟨b13f0, b13f1, b13f2, b13f3, b13f4, b13f5⟩ := frees6 (S13.out.fr); obtain ⟨z130, z131, z132, z133, z134, z135⟩ := cells6 (S13.out.zr); obtain ⟨z13f0, z13f1, z13f2, z13f3, z13f4, z13f5⟩ := frees6 (S13.out.zr); clear r13 o13) | (go_at_call 56; (with_reducible refine (FA5.out _ R13.out).mono ?_); rintro e w14 ⟨rfl, hb14⟩; have S14 := Lib.hid (S13.out.below hb14); have R14 := Lib.hid (R13.out.below hb14); obtain ⟨b140, b141, b142, b143, b144, b145⟩ := cells6 (S14.out.fr); obtain ⟨b14f0, b14f1, b14f2, b14f3, b14f4, b14f5⟩ := frees6 (S14.out.fr); obtain ⟨z140, z141, z142, z143, z144, z145⟩ := cells6 (S14.out.zr); obtain ⟨z14f0, z14f1, z14f2, z14f3, z14f4, z14f5⟩ := frees6 (S14.out.zr); clear hb14) | (go_at_call 16; (with_reducible refine (BD5.out _).mono ?_); rintro e w15 ⟨rfl, hb15⟩; have S15 := Lib.hid (S14.out.below hb15); have R15 := Lib.hid (R14.out.below hb15); obtain ⟨b150, b151, b152, b153, b154, b155⟩ := cells6 (S15.out.fr); obtain ⟨b15f0, b15f1, b15f2, b15f3, b15f4, b15f5⟩ := frees6 (S15.out.fr); obtain ⟨z150, z151, z152, z153, z154, z155⟩ := cells6 (S15.out.zr); obtain ⟨z15f0, z15f1, z15f2, z15f3, z15f4, z15f5⟩ := frees6 (S15.out.zr); clear hb15))
    refine end_cell_tmp rfl rfl rfl (store6 S15.out.zr rfl) Try.underlying47 rfl (by kernel_rfl) ⟨rfl, ?_, ?_⟩
    · exact (((((R15.out.putO hbr _).putO hbr _).putO hbr _).putO hbr _).putO hbr _).putO hbr _
    · exact ((((((S15.out.on.other (Only.set _) (.inr hrn)).other (Only.set _) (.inr hrn)).other (Only.set _) (.inr hrn)).other (Only.set _) (.inr hrn)).other (Only.set _) (.inr hrn)).other (Only.set _) (.inr hrn))
  rw [show ((0 : Int) != 0) = false by rfl] at BD5
  go_upto_region 20 with (first | (go_at_call 98; (with_reducible refine (AT2.out _ R11.out).mono ?_); rintro e wx ⟨rfl, rfl⟩; skip) | (go_at_call 54; (with_reducible refine (T5.out _ R11.out).mono ?_); rintro e w13 ⟨rfl, r13, o13⟩; have R13 := Lib.hid r13; have S13 := Lib.hid (S11.out.read o13 hpb hrb (.inl rfl)); obtain ⟨b130, b131, b132, b133, b134, b135⟩ := cells6 (S13.out.fr); obtain ⟨b13f0, b13f1, b13f2, b13f3, b13f4, b13f5⟩ := frees6 (S13.out.fr); obtain ⟨z130, z131, z132, z133, z134, z135⟩ := cells6 (S13.out.zr); obtain ⟨z13f0, z13f1, z13f2, z13f3, z13f4, z13f5⟩ := frees6 (S13.out.zr); clear r13 o13) | (go_at_call 56; (with_reducible refine (FA5.out _ R13.out).mono ?_); rintro e w14 ⟨rfl, hb14⟩; have S14 := Lib.hid (S13.out.below hb14); have R14 := Lib.hid (R13.out.below hb14); obtain ⟨b140, b141, b142, b143, b144, b145⟩ := cells6 (S14.out.fr); obtain ⟨b14f0, b14f1, b14f2, b14f3, b14f4, b14f5⟩ := frees6 (S14.out.fr); obtain ⟨z140, z141, z142, z143, z144, z145⟩ := cells6 (S14.out.zr); obtain ⟨z14f0, z14f1, z14f2, z14f3, z14f4, z14f5⟩ := frees6 (S14.out.zr); clear hb14) | (go_at_call 16; (with_reducible refine (BD5.out _).mono ?_); rintro e w15 ⟨rfl, hb15⟩; have S15 := Lib.hid (S14.out.below hb15); have R15 := Lib.hid (R14.out.below hb15); obtain ⟨b150, b151, b152, b153, b154, b155⟩ := cells6 (S15.out.fr); obtain ⟨b15f0, b15f1, b15f2, b15f3, b15f4, b15f5⟩ := frees6 (S15.out.fr); obtain ⟨z150, z151, z152, z153, z154, z155⟩ := cells6 (S15.out.zr); obtain ⟨z15f0, z15f1, z15f2, z15f3, z15f4, z15f5⟩ := frees6 (S15.out.zr); clear hb15))
  have HF := Lib.hid (show w15.heap[pb]? = some (.cells (frC id st fm 0 [] at0) 47 (0, 0)) from S15.out.fr)
  have BD2 := Lib.hid (fun w => bad_any c p w)
  rcases HC with ⟨hc, rfl, rfl, rfl⟩ | ⟨rfl, rfl, rfl, rfl⟩
  · rw [show (c != 0) = true by simpa using hc] at BD2
    go_wp2_with (first | (go_at_call 126; (with_reducible refine (FI.out pb _ HF.out).mono ?_); rintro e w16 ⟨rfl, o16, f16⟩; have R16 := Lib.hid (R15.out.only o16 hbp); have S16 : Hid (ST w w16 b rb #[.string ⟨#[]⟩, .int .u8 0, .int .u8 0, .int .u8 0, .string ⟨#[]⟩, .int .i64 0] 47 rb #[.string ⟨#[]⟩, .int .u8 0, .int .u8 0, .int .u8 0, .string ⟨#[]⟩, .int .i64 0] 47) := Lib.hid ⟨block_only S15.out.zr o16 hrp, block_only S15.out.zr o16 hrp, S15.out.on.other o16 (.inr hpn)⟩; clear o16 f16) | (go_at_call 16; (with_reducible refine (BD2.out _).mono ?_); rintro e w17 ⟨rfl, hb17⟩; have S17 := Lib.hid ((S16.out.alloc _).below hb17); have R17 := Lib.hid ((R16.out.alloc _).below hb17); obtain ⟨z170, z171, z172, z173, z174, z175⟩ := cells6 (S17.out.zr); obtain ⟨z17f0, z17f1, z17f2, z17f3, z17f4, z17f5⟩ := frees6 (S17.out.zr); have X17 := block_below (at_a0 w16 _ _) hb17; obtain ⟨x0, x1⟩ := cells2 (X17); clear hb17) | (go_at_call 94; (with_reducible refine (FL2.out _ R17.out).mono ?_); rintro e w18 ⟨rfl, r18, o18⟩; have R18 := Lib.hid r18; have S18 := Lib.hid (S17.out.read o18 hrb hrb (.inl rfl)); obtain ⟨z180, z181, z182, z183, z184, z185⟩ := cells6 (S18.out.zr); obtain ⟨z18f0, z18f1, z18f2, z18f3, z18f4, z18f5⟩ := frees6 (S18.out.zr); clear r18 o18))
    refine end_cell_tmp rfl rfl rfl (store6 S18.out.zr rfl) Try.underlying47 rfl (by kernel_rfl) ⟨rfl, ?_, ?_⟩
    · exact (((((R18.out.putO hbr _).putO hbr _).putO hbr _).putO hbr _).putO hbr _).putO hbr _
    · exact ((((((S18.out.on.other (Only.set _) (.inr hrn)).other (Only.set _) (.inr hrn)).other (Only.set _) (.inr hrn)).other (Only.set _) (.inr hrn)).other (Only.set _) (.inr hrn)).other (Only.set _) (.inr hrn))
  · rw [show ((0 : Int) != 0) = false by rfl] at BD2
    go_wp2_with (first | (go_at_call 126; (with_reducible refine (FI.out pb _ HF.out).mono ?_); rintro e w16 ⟨rfl, o16, f16⟩; have R16 := Lib.hid (R15.out.only o16 hbp); have S16 : Hid (ST w w16 b pb #[.string ⟨id.toArray⟩, .int .u8 st.toNat, .int .u8 fm.toNat, .int .u8 gr.toNat, .string ⟨bo.toArray⟩, .int .i64 at0] 47 rb #[.string ⟨#[]⟩, .int .u8 0, .int .u8 0, .int .u8 0, .string ⟨#[]⟩, .int .i64 0] 47) := Lib.hid ⟨f16 rfl, block_only S15.out.zr o16 hrp, S15.out.on.other o16 (.inr hpn)⟩; clear o16 f16) | (go_at_call 16; (with_reducible refine (BD2.out _).mono ?_); rintro e w17 ⟨rfl, hb17⟩; have S17 := Lib.hid ((S16.out.alloc _).below hb17); have R17 := Lib.hid ((R16.out.alloc _).below hb17); obtain ⟨b170, b171, b172, b173, b174, b175⟩ := cells6 (S17.out.fr); obtain ⟨b17f0, b17f1, b17f2, b17f3, b17f4, b17f5⟩ := frees6 (S17.out.fr); obtain ⟨z170, z171, z172, z173, z174, z175⟩ := cells6 (S17.out.zr); obtain ⟨z17f0, z17f1, z17f2, z17f3, z17f4, z17f5⟩ := frees6 (S17.out.zr); have X17 := block_below (at_a0 w16 _ _) hb17; obtain ⟨x0, x1⟩ := cells2 (X17); clear hb17))
    refine end_cell_tmp rfl rfl rfl (store6 S17.out.zr rfl) Try.underlying47 rfl (by kernel_rfl) ⟨rfl, ?_, ?_⟩
    · exact (((((R17.out.putO hbr _).putO hbr _).putO hbr _).putO hbr _).putO hbr _).putO hbr _
    · exact ((((((S17.out.on.other (Only.set _) (.inr hrn)).other (Only.set _) (.inr hrn)).other (Only.set _) (.inr hrn)).other (Only.set _) (.inr hrn)).other (Only.set _) (.inr hrn)).other (Only.set _) (.inr hrn))
set_option maxHeartbeats 4000000 in
set_option maxRecDepth 100000 in
theorem fparse_400 (b : Nat) (m m1 m2 m3 m4 m5 m6 mR : Rd) (q0 l0 at0 at2 c5 q5 c p : Int) (wn many : Nat) (s id data bo : List UInt8) (st fm fm' gr : UInt8) (fR : Fr) (ok : Bool) (w : World) (h : RdAt w b m)
    (LT : Hid (∀ w, Calls Try.prog 75 #[.int .i64 4] w fun e w' => e = .returned (.int .i64 4) ∧ w = w'))
    (FA : Hid (∀ w, RdAt w b m → Calls Try.prog 56 #[.pointer (some ⟨b, 0, none⟩)] w fun e w' => e = .returned (.agg #[.int .i64 0, .int .i64 q0]) ∧ Below w.heap.size w w'))
    (LE : Hid (∀ w, RdAt w b m → Calls Try.prog 99 #[.pointer (some ⟨b, 0, none⟩)] w fun e w' => e = .returned (.int .i64 l0) ∧ Below w.heap.size w w'))
    (PK : Hid (∀ w, RdAt w b m → Calls Try.prog 123 #[.pointer (some ⟨b, 0, none⟩), .int .i64 1] w fun e w' => e = .returned (.string ⟨s.toArray⟩) ∧ Below w.heap.size w w'))
    (hl : (l0 == 0) = false) (hs : (s == [0]) = false)
    (AT0 : Hid (∀ w, RdAt w b m → Calls Try.prog 98 #[.pointer (some ⟨b, 0, none⟩)] w fun e w' => e = .returned (.int .i64 at0) ∧ w = w'))
    (T1 : Hid (∀ w, RdAt w b m → Calls Try.prog 54 #[.pointer (some ⟨b, 0, none⟩), .int .i64 4] w fun e w' => e = .returned (.string ⟨id.toArray⟩) ∧ RdAt w' b m1 ∧ Only b w w'))
    (WR : Hid (∀ w, Calls Try.prog 124 #[.string ⟨id.toArray⟩] w fun e w' => e = .returned (.int .i64 wn) ∧ w = w'))
    (hbad : ¬ (wn : Int) < id.length) (E2 : m1 = m2)
    (SZ : Hid (∀ w, RdAt w b m2 → Calls Try.prog 125 #[.int .i64 4, .pointer (some ⟨b, 0, none⟩)] w fun e w' => e = .returned (.int .i64 many) ∧ RdAt w' b m3 ∧ Only b w w'))
    (B2 : Hid (∀ w, RdAt w b m3 → Calls Try.prog 93 #[.pointer (some ⟨b, 0, none⟩), .int .i64 2] w fun e w' => e = .returned (.int .u64 ((st.toNat * 256 + fm.toNat : Nat) : Int)) ∧ RdAt w' b m4 ∧ Only b w w'))
    (EF : fm = fm')
    (AT2 : Hid (∀ w, RdAt w b m4 → Calls Try.prog 98 #[.pointer (some ⟨b, 0, none⟩)] w fun e w' => e = .returned (.int .i64 at2) ∧ w = w'))
    (T5 : Hid (∀ w, RdAt w b m4 → Calls Try.prog 54 #[.pointer (some ⟨b, 0, none⟩), .int .i64 many] w fun e w' => e = .returned (.string ⟨data.toArray⟩) ∧ RdAt w' b m5 ∧ Only b w w'))
    (FA5 : Hid (∀ w, RdAt w b m5 → Calls Try.prog 56 #[.pointer (some ⟨b, 0, none⟩)] w fun e w' => e = .returned (.agg #[.int .i64 c5, .int .i64 q5]) ∧ Below w.heap.size w w'))
    (FI : Hid (∀ pb w, w.heap[pb]? = some (.cells (frC id st fm' 0 [] at0) 47 (0, 0)) → Calls Try.prog 126 #[.pointer (some ⟨pb, 0, none⟩), .int .i64 4, .string ⟨data.toArray⟩, .int .i64 at2] w (FillSays pb id st fm' gr bo at0 c p w)))
    (FL2 : Hid (∀ w, RdAt w b m5 → Calls Try.prog 94 #[.pointer (some ⟨b, 0, none⟩), .int .i64 c, .int .i64 p] w fun e w' => e = .returned (.tuple #[]) ∧ RdAt w' b m6 ∧ Only b w w'))
    (HC : (c5 ≠ 0 ∧ mR = m5 ∧ fR = zeroF ∧ ok = false) ∨ (c5 = 0 ∧ ((c ≠ 0 ∧ mR = m6 ∧ fR = zeroF ∧ ok = false) ∨ (c = 0 ∧ mR = m5 ∧ fR = ⟨id, st, fm', gr, bo, at0⟩ ∧ ok = true))))
    : Calls Try.prog 89 #[.int .i64 4, .pointer (some ⟨b, 0, none⟩), .bool false] w (FParse b mR fR ok w) := by
  subst E2
  subst EF
  have hlt := h.lt
  obtain ⟨rb, hR⟩ : ∃ x, x = w.heap.size := ⟨_, rfl⟩
  have HR := Lib.hid hR
  have BD := Lib.hid (fun w => bad_any 0 q0 w)
  rw [show ((0 : Int) != 0) = false by rfl] at BD
  have BD5 := Lib.hid (fun w => bad_any c5 q5 w)
  have S0 : Hid (ST w (w.alloc (.cells #[.string ⟨#[]⟩, .int .u8 0, .int .u8 0, .int .u8 0, .string ⟨#[]⟩, .int .i64 0] 47)) b w.heap.size _ 47 w.heap.size _ 47) := Lib.hid ⟨at_a0 _ _ _, at_a0 _ _ _, Only.of_below ((Below.refl _ _).alloc (Nat.le_refl _) _)⟩
  have R0 := Lib.hid (h.alloc (.cells #[.string ⟨#[]⟩, .int .u8 0, .int .u8 0, .int .u8 0, .string ⟨#[]⟩, .int .i64 0] 47))
  clear h
  have hst := byte_le st
  have hfm := byte_le fm
  go_enter Try.func89, Try.ntmps89
  go_upto_region 4 with (first | (go_at_call 75; (with_reducible refine (LT.out _).mono ?_); rintro e wx ⟨rfl, rfl⟩; skip) | (go_at_call 56; (with_reducible refine (FA.out _ R0.out).mono ?_); rintro e w1 ⟨rfl, hb1⟩; have S1 := Lib.hid (S0.out.below hb1); have R1 := Lib.hid (R0.out.below hb1); obtain ⟨z10, z11, z12, z13, z14, z15⟩ := cells6 (S1.out.zr); obtain ⟨z1f0, z1f1, z1f2, z1f3, z1f4, z1f5⟩ := frees6 (S1.out.zr); clear hb1) | (go_at_call 16; (with_reducible refine (BD.out _).mono ?_); rintro e w2 ⟨rfl, hb2⟩; have S2 := Lib.hid (S1.out.below hb2); have R2 := Lib.hid (R1.out.below hb2); obtain ⟨z20, z21, z22, z23, z24, z25⟩ := cells6 (S2.out.zr); obtain ⟨z2f0, z2f1, z2f2, z2f3, z2f4, z2f5⟩ := frees6 (S2.out.zr); clear hb2) | (go_at_call 99; (with_reducible refine (LE.out _ R2.out).mono ?_); rintro e w3 ⟨rfl, hb3⟩; have S3 := Lib.hid (S2.out.below hb3); have R3 := Lib.hid (R2.out.below hb3); obtain ⟨z30, z31, z32, z33, z34, z35⟩ := cells6 (S3.out.zr); obtain ⟨z3f0, z3f1, z3f2, z3f3, z3f4, z3f5⟩ := frees6 (S3.out.zr); clear hb3) | (go_at_call 123; (with_reducible refine (PK.out _ R3.out).mono ?_); rintro e w4 ⟨rfl, hb4⟩; have S4 := Lib.hid (S3.out.below hb4); have R4 := Lib.hid (R3.out.below hb4); obtain ⟨z40, z41, z42, z43, z44, z45⟩ := cells6 (S4.out.zr); obtain ⟨z4f0, z4f1, z4f2, z4f3, z4f4, z4f5⟩ := frees6 (S4.out.zr); clear hb4))
  generalize hrb0 : w.heap.size = rb at *
  have hrn : w.heap.size ≤ rb := Nat.le_of_eq hrb0
  have hrb : rb ≠ b := by omega
  have hbr : b ≠ rb := by omega
  have HRB := Lib.hid hrb0
  clear hrb0 S0 S1 S2 S3 R0 R1 R2 R3 BD LT FA LE PK hl hs z10 z1f0 z11 z1f1 z12 z1f2 z13 z1f3 z14 z1f4 z15 z1f5 z20 z2f0 z21 z2f1 z22 z2f2 z23 z2f3 z24 z2f4 z25 z2f5 z30 z3f0 z31 z3f1 z32 z3f2 z33 z3f3 z34 z3f4 z35 z3f5 z40 z4f0 z41 z4f1 z42 z4f2 z43 z4f3 z44 z4f4 z45 z4f5
  go_upto_region 5 with (first | (go_at_call 98; (with_reducible refine (AT0.out _ R4.out).mono ?_); rintro e wx ⟨rfl, rfl⟩; skip))
  have S5 : Hid (ST w (w4.alloc (.cells #[.string ⟨#[]⟩, .int .u8 0, .int .u8 0, .int .u8 0, .string ⟨#[]⟩, .int .i64 at0] 47)) b w4.heap.size #[.string ⟨#[]⟩, .int .u8 0, .int .u8 0, .int .u8 0, .string ⟨#[]⟩, .int .i64 at0] 47 rb #[.string ⟨#[]⟩, .int .u8 0, .int .u8 0, .int .u8 0, .string ⟨#[]⟩, .int .i64 0] 47) := Lib.hid ⟨at_a0 _ _ _, block_below S4.out.zr ((Below.refl _ _).alloc (Nat.le_refl _) _), S4.out.on.trans (Only.of_below ((Below.refl _ _).alloc (Nat.le_refl _) _))⟩
  have R5 := Lib.hid (R4.out.alloc (.cells #[.string ⟨#[]⟩, .int .u8 0, .int .u8 0, .int .u8 0, .string ⟨#[]⟩, .int .i64 at0] 47))
  have h81 := (Array.getElem?_eq_some_iff.1 S4.out.zr).1
  have h82 := R4.out.lt
  have h83 := S4.out.on.size
  generalize w4.alloc (.cells #[.string ⟨#[]⟩, .int .u8 0, .int .u8 0, .int .u8 0, .string ⟨#[]⟩, .int .i64 at0] 47) = w5 at *
  generalize w4.heap.size = pb at *
  have hpb : pb ≠ b := by omega
  have hbp : b ≠ pb := by omega
  have hrp : rb ≠ pb := by omega
  have hpr : pb ≠ rb := by omega
  have hpn := h83
  clear h81 h82 h83 S4 R4 AT0
  obtain ⟨b50, b51, b52, b53, b54, b55⟩ := cells6 (S5.out.fr); obtain ⟨b5f0, b5f1, b5f2, b5f3, b5f4, b5f5⟩ := frees6 (S5.out.fr)
  go_upto_region 6 with (first | (go_at_call 54; (with_reducible refine (T1.out _ R5.out).mono ?_); rintro e w6 ⟨rfl, r6, o6⟩; have R6 := Lib.hid r6; have S6 := Lib.hid (S5.out.read o6 hpb hrb (.inl rfl)); obtain ⟨b60, b61, b62, b63, b64, b65⟩ := cells6 (S6.out.fr); obtain ⟨b6f0, b6f1, b6f2, b6f3, b6f4, b6f5⟩ := frees6 (S6.out.fr); obtain ⟨z60, z61, z62, z63, z64, z65⟩ := cells6 (S6.out.zr); obtain ⟨z6f0, z6f1, z6f2, z6f3, z6f4, z6f5⟩ := frees6 (S6.out.zr); clear r6 o6))
  have S7 : Hid (ST w (w6.setCell ⟨pb, 0, none⟩ (.string ⟨id.toArray⟩)) b pb #[.string ⟨id.toArray⟩, .int .u8 0, .int .u8 0, .int .u8 0, .string ⟨#[]⟩, .int .i64 at0] 47 rb #[.string ⟨#[]⟩, .int .u8 0, .int .u8 0, .int .u8 0, .string ⟨#[]⟩, .int .i64 0] 47) := Lib.hid (S6.out.put 0 (.string ⟨id.toArray⟩) hrp (.inr hpn))
  have R7 := Lib.hid (R6.out.putO hbp (.string ⟨id.toArray⟩) (j := 0))
  generalize (w6.setCell ⟨pb, 0, none⟩ (.string ⟨id.toArray⟩)) = w7 at *
  obtain ⟨b70, b71, b72, b73, b74, b75⟩ := cells6 (S7.out.fr); obtain ⟨b7f0, b7f1, b7f2, b7f3, b7f4, b7f5⟩ := frees6 (S7.out.fr)
  clear S5 S6 R5 R6 T1 b50 b5f0 b51 b5f1 b52 b5f2 b53 b5f3 b54 b5f4 b55 b5f5 b60 b6f0 b61 b6f1 b62 b6f2 b63 b6f3 b64 b6f4 b65 b6f5
  go_upto_region 9 with (first | (go_at_call 124; (with_reducible refine (WR.out _).mono ?_); rintro e wx ⟨rfl, rfl⟩; skip))
  go_upto_region 14 with (first | (go_at_call 125; (with_reducible refine (SZ.out _ R7.out).mono ?_); rintro e w9 ⟨rfl, r9, o9⟩; have R9 := Lib.hid r9; have S9 := Lib.hid (S7.out.read o9 hpb hrb (.inl rfl)); obtain ⟨b90, b91, b92, b93, b94, b95⟩ := cells6 (S9.out.fr); obtain ⟨b9f0, b9f1, b9f2, b9f3, b9f4, b9f5⟩ := frees6 (S9.out.fr); obtain ⟨z90, z91, z92, z93, z94, z95⟩ := cells6 (S9.out.zr); obtain ⟨z9f0, z9f1, z9f2, z9f3, z9f4, z9f5⟩ := frees6 (S9.out.zr); clear r9 o9) | (go_at_call 93; (with_reducible refine (B2.out _ R9.out).mono ?_); rintro e w10 ⟨rfl, r10, o10⟩; have R10 := Lib.hid r10; have S10 := Lib.hid (S9.out.read o10 hpb hrb (.inl rfl)); obtain ⟨b100, b101, b102, b103, b104, b105⟩ := cells6 (S10.out.fr); obtain ⟨b10f0, b10f1, b10f2, b10f3, b10f4, b10f5⟩ := frees6 (S10.out.fr); obtain ⟨z100, z101, z102, z103, z104, z105⟩ := cells6 (S10.out.zr); obtain ⟨z10f0, z10f1, z10f2, z10f3, z10f4, z10f5⟩ := frees6 (S10.out.zr); clear r10 o10))
  rw [show ((st.toNat : Int) * 256 + fm.toNat) / 256 = st.toNat by omega, show (fm.toNat : Int) % 256 = fm.toNat by omega]
  have S11 : Hid (ST w ((w10.setCell ⟨pb, 1, none⟩ (.int .u8 st.toNat)).setCell ⟨pb, 2, none⟩ (.int .u8 fm.toNat)) b pb #[.string ⟨id.toArray⟩, .int .u8 st.toNat, .int .u8 fm.toNat, .int .u8 0, .string ⟨#[]⟩, .int .i64 at0] 47 rb #[.string ⟨#[]⟩, .int .u8 0, .int .u8 0, .int .u8 0, .string ⟨#[]⟩, .int .i64 0] 47) := Lib.hid ((S10.out.put 1 (.int .u8 st.toNat) hrp (.inr hpn)).put 2 (.int .u8 fm.toNat) hrp (.inr hpn))
  have R11 := Lib.hid ((R10.out.putO hbp (.int .u8 st.toNat) (j := 1)).putO hbp (.int .u8 fm.toNat) (j := 2))
  generalize ((w10.setCell ⟨pb, 1, none⟩ (.int .u8 st.toNat)).setCell ⟨pb, 2, none⟩ (.int .u8 fm.toNat)) = w11 at *
  obtain ⟨b110, b111, b112, b113, b114, b115⟩ := cells6 (S11.out.fr); obtain ⟨b11f0, b11f1, b11f2, b11f3, b11f4, b11f5⟩ := frees6 (S11.out.fr)
  clear S7 S9 S10 R7 R9 R10 b70 b7f0 b71 b7f1 b72 b7f2 b73 b7f3 b74 b7f4 b75 b7f5 b90 b9f0 b91 b9f1 b92 b9f2 b93 b9f3 b94 b9f4 b95 b9f5 b100 b10f0 b101 b10f1 b102 b10f2 b103 b10f3 b104 b10f4 b105 b10f5
  go_upto_region 16 with fail
  rcases HC with ⟨hc5, rfl, rfl, rfl⟩ | ⟨rfl, HC⟩
  · rw [show (c5 != 0) = true by simpa using hc5] at BD5
    go_wp2_with (first | (go_at_call 98; (with_reducible refine (AT2.out _ R11.out).mono ?_); rintro e wx ⟨rfl, rfl⟩; skip) | (go_at_call 54; (with_reducible refine (T5.out _ R11.out).mono ?_); rintro e w13 ⟨rfl, r13, o13⟩; have R13 := Lib.hid r13; have S13 := Lib.hid (S11.out.read o13 hpb hrb (.inl rfl)); obtain ⟨b130, b131, b132, b133, b134, b135⟩ := cells6 (S13.out.fr); obtain ⟨b13f0, b13f1, b13f2, b13f3, b13f4, b13f5⟩ := frees6 (S13.out.fr); obtain ⟨z130, z131, z132, z133, z134, z135⟩ := cells6 (S13.out.zr); obtain ⟨z13f0, z13f1, z13f2, z13f3, z13f4, z13f5⟩ := frees6 (S13.out.zr); clear r13 o13) | (go_at_call 56; (with_reducible refine (FA5.out _ R13.out).mono ?_); rintro e w14 ⟨rfl, hb14⟩; have S14 := Lib.hid (S13.out.below hb14); have R14 := Lib.hid (R13.out.below hb14); obtain ⟨b140, b141, b142, b143, b144, b145⟩ := cells6 (S14.out.fr); obtain ⟨b14f0, b14f1, b14f2, b14f3, b14f4, b14f5⟩ := frees6 (S14.out.fr); obtain ⟨z140, z141, z142, z143, z144, z145⟩ := cells6 (S14.out.zr); obtain ⟨z14f0, z14f1, z14f2, z14f3, z14f4, z14f5⟩ := frees6 (S14.out.zr); clear hb14) | (go_at_call 16; (with_reducible refine (BD5.out _).mono ?_); rintro e w15 ⟨rfl, hb15⟩; have S15 := Lib.hid (S14.out.below hb15); have R15 := Lib.hid (R14.out.below hb15); obtain ⟨b150, b151, b152, b153, b154, b155⟩ := cells6 (S15.out.fr); obtain ⟨b15f0, b15f1, b15f2, b15f3, b15f4, b15f5⟩ := frees6 (S15.out.fr); obtain ⟨z150, z151, z152, z153, z154, z155⟩ := cells6 (S15.out.zr); obtain ⟨z15f0, z15f1, z15f2, z15f3, z15f4, z15f5⟩ := frees6 (S15.out.zr); clear hb15))
    refine end_cell_tmp rfl rfl rfl (store6 S15.out.zr rfl) Try.underlying47 rfl (by kernel_rfl) ⟨rfl, ?_, ?_⟩
    · exact (((((R15.out.putO hbr _).putO hbr _).putO hbr _).putO hbr _).putO hbr _).putO hbr _
    · exact ((((((S15.out.on.other (Only.set _) (.inr hrn)).other (Only.set _) (.inr hrn)).other (Only.set _) (.inr hrn)).other (Only.set _) (.inr hrn)).other (Only.set _) (.inr hrn)).other (Only.set _) (.inr hrn))
  rw [show ((0 : Int) != 0) = false by rfl] at BD5
  go_upto_region 20 with (first | (go_at_call 98; (with_reducible refine (AT2.out _ R11.out).mono ?_); rintro e wx ⟨rfl, rfl⟩; skip) | (go_at_call 54; (with_reducible refine (T5.out _ R11.out).mono ?_); rintro e w13 ⟨rfl, r13, o13⟩; have R13 := Lib.hid r13; have S13 := Lib.hid (S11.out.read o13 hpb hrb (.inl rfl)); obtain ⟨b130, b131, b132, b133, b134, b135⟩ := cells6 (S13.out.fr); obtain ⟨b13f0, b13f1, b13f2, b13f3, b13f4, b13f5⟩ := frees6 (S13.out.fr); obtain ⟨z130, z131, z132, z133, z134, z135⟩ := cells6 (S13.out.zr); obtain ⟨z13f0, z13f1, z13f2, z13f3, z13f4, z13f5⟩ := frees6 (S13.out.zr); clear r13 o13) | (go_at_call 56; (with_reducible refine (FA5.out _ R13.out).mono ?_); rintro e w14 ⟨rfl, hb14⟩; have S14 := Lib.hid (S13.out.below hb14); have R14 := Lib.hid (R13.out.below hb14); obtain ⟨b140, b141, b142, b143, b144, b145⟩ := cells6 (S14.out.fr); obtain ⟨b14f0, b14f1, b14f2, b14f3, b14f4, b14f5⟩ := frees6 (S14.out.fr); obtain ⟨z140, z141, z142, z143, z144, z145⟩ := cells6 (S14.out.zr); obtain ⟨z14f0, z14f1, z14f2, z14f3, z14f4, z14f5⟩ := frees6 (S14.out.zr); clear hb14) | (go_at_call 16; (with_reducible refine (BD5.out _).mono ?_); rintro e w15 ⟨rfl, hb15⟩; have S15 := Lib.hid (S14.out.below hb15); have R15 := Lib.hid (R14.out.below hb15); obtain ⟨b150, b151, b152, b153, b154, b155⟩ := cells6 (S15.out.fr); obtain ⟨b15f0, b15f1, b15f2, b15f3, b15f4, b15f5⟩ := frees6 (S15.out.fr); obtain ⟨z150, z151, z152, z153, z154, z155⟩ := cells6 (S15.out.zr); obtain ⟨z15f0, z15f1, z15f2, z15f3, z15f4, z15f5⟩ := frees6 (S15.out.zr); clear hb15))
  have HF := Lib.hid (show w15.heap[pb]? = some (.cells (frC id st fm 0 [] at0) 47 (0, 0)) from S15.out.fr)
  have BD2 := Lib.hid (fun w => bad_any c p w)
  rcases HC with ⟨hc, rfl, rfl, rfl⟩ | ⟨rfl, rfl, rfl, rfl⟩
  · rw [show (c != 0) = true by simpa using hc] at BD2
    go_wp2_with (first | (go_at_call 126; (with_reducible refine (FI.out pb _ HF.out).mono ?_); rintro e w16 ⟨rfl, o16, f16⟩; have R16 := Lib.hid (R15.out.only o16 hbp); have S16 : Hid (ST w w16 b rb #[.string ⟨#[]⟩, .int .u8 0, .int .u8 0, .int .u8 0, .string ⟨#[]⟩, .int .i64 0] 47 rb #[.string ⟨#[]⟩, .int .u8 0, .int .u8 0, .int .u8 0, .string ⟨#[]⟩, .int .i64 0] 47) := Lib.hid ⟨block_only S15.out.zr o16 hrp, block_only S15.out.zr o16 hrp, S15.out.on.other o16 (.inr hpn)⟩; clear o16 f16) | (go_at_call 16; (with_reducible refine (BD2.out _).mono ?_); rintro e w17 ⟨rfl, hb17⟩; have S17 := Lib.hid ((S16.out.alloc _).below hb17); have R17 := Lib.hid ((R16.out.alloc _).below hb17); obtain ⟨z170, z171, z172, z173, z174, z175⟩ := cells6 (S17.out.zr); obtain ⟨z17f0, z17f1, z17f2, z17f3, z17f4, z17f5⟩ := frees6 (S17.out.zr); have X17 := block_below (at_a0 w16 _ _) hb17; obtain ⟨x0, x1⟩ := cells2 (X17); clear hb17) | (go_at_call 94; (with_reducible refine (FL2.out _ R17.out).mono ?_); rintro e w18 ⟨rfl, r18, o18⟩; have R18 := Lib.hid r18; have S18 := Lib.hid (S17.out.read o18 hrb hrb (.inl rfl)); obtain ⟨z180, z181, z182, z183, z184, z185⟩ := cells6 (S18.out.zr); obtain ⟨z18f0, z18f1, z18f2, z18f3, z18f4, z18f5⟩ := frees6 (S18.out.zr); clear r18 o18))
    refine end_cell_tmp rfl rfl rfl (store6 S18.out.zr rfl) Try.underlying47 rfl (by kernel_rfl) ⟨rfl, ?_, ?_⟩
    · exact (((((R18.out.putO hbr _).putO hbr _).putO hbr _).putO hbr _).putO hbr _).putO hbr _
    · exact ((((((S18.out.on.other (Only.set _) (.inr hrn)).other (Only.set _) (.inr hrn)).other (Only.set _) (.inr hrn)).other (Only.set _) (.inr hrn)).other (Only.set _) (.inr hrn)).other (Only.set _) (.inr hrn))
  · rw [show ((0 : Int) != 0) = false by rfl] at BD2
    go_wp2_with (first | (go_at_call 126; (with_reducible refine (FI.out pb _ HF.out).mono ?_); rintro e w16 ⟨rfl, o16, f16⟩; have R16 := Lib.hid (R15.out.only o16 hbp); have S16 : Hid (ST w w16 b pb #[.string ⟨id.toArray⟩, .int .u8 st.toNat, .int .u8 fm.toNat, .int .u8 gr.toNat, .string ⟨bo.toArray⟩, .int .i64 at0] 47 rb #[.string ⟨#[]⟩, .int .u8 0, .int .u8 0, .int .u8 0, .string ⟨#[]⟩, .int .i64 0] 47) := Lib.hid ⟨f16 rfl, block_only S15.out.zr o16 hrp, S15.out.on.other o16 (.inr hpn)⟩; clear o16 f16) | (go_at_call 16; (with_reducible refine (BD2.out _).mono ?_); rintro e w17 ⟨rfl, hb17⟩; have S17 := Lib.hid ((S16.out.alloc _).below hb17); have R17 := Lib.hid ((R16.out.alloc _).below hb17); obtain ⟨b170, b171, b172, b173, b174, b175⟩ := cells6 (S17.out.fr); obtain ⟨b17f0, b17f1, b17f2, b17f3, b17f4, b17f5⟩ := frees6 (S17.out.fr); obtain ⟨z170, z171, z172, z173, z174, z175⟩ := cells6 (S17.out.zr); obtain ⟨z17f0, z17f1, z17f2, z17f3, z17f4, z17f5⟩ := frees6 (S17.out.zr); have X17 := block_below (at_a0 w16 _ _) hb17; obtain ⟨x0, x1⟩ := cells2 (X17); clear hb17))
    refine end_cell_tmp rfl rfl rfl (store6 S17.out.zr rfl) Try.underlying47 rfl (by kernel_rfl) ⟨rfl, ?_, ?_⟩
    · exact (((((R17.out.putO hbr _).putO hbr _).putO hbr _).putO hbr _).putO hbr _).putO hbr _
    · exact ((((((S17.out.on.other (Only.set _) (.inr hrn)).other (Only.set _) (.inr hrn)).other (Only.set _) (.inr hrn)).other (Only.set _) (.inr hrn)).other (Only.set _) (.inr hrn)).other (Only.set _) (.inr hrn))
set_option maxHeartbeats 4000000 in
set_option maxRecDepth 100000 in
theorem fparse_401 (b : Nat) (m m1 m2 m3 m4 m5 m6 mR : Rd) (q0 l0 at0 at2 c5 q5 c p : Int) (wn many : Nat) (s id data bo : List UInt8) (st fm fm' gr : UInt8) (fR : Fr) (ok : Bool) (w : World) (h : RdAt w b m)
    (LT : Hid (∀ w, Calls Try.prog 75 #[.int .i64 4] w fun e w' => e = .returned (.int .i64 4) ∧ w = w'))
    (FA : Hid (∀ w, RdAt w b m → Calls Try.prog 56 #[.pointer (some ⟨b, 0, none⟩)] w fun e w' => e = .returned (.agg #[.int .i64 0, .int .i64 q0]) ∧ Below w.heap.size w w'))
    (LE : Hid (∀ w, RdAt w b m → Calls Try.prog 99 #[.pointer (some ⟨b, 0, none⟩)] w fun e w' => e = .returned (.int .i64 l0) ∧ Below w.heap.size w w'))
    (PK : Hid (∀ w, RdAt w b m → Calls Try.prog 123 #[.pointer (some ⟨b, 0, none⟩), .int .i64 1] w fun e w' => e = .returned (.string ⟨s.toArray⟩) ∧ Below w.heap.size w w'))
    (hl : (l0 == 0) = false) (hs : (s == [0]) = false)
    (AT0 : Hid (∀ w, RdAt w b m → Calls Try.prog 98 #[.pointer (some ⟨b, 0, none⟩)] w fun e w' => e = .returned (.int .i64 at0) ∧ w = w'))
    (T1 : Hid (∀ w, RdAt w b m → Calls Try.prog 54 #[.pointer (some ⟨b, 0, none⟩), .int .i64 4] w fun e w' => e = .returned (.string ⟨id.toArray⟩) ∧ RdAt w' b m1 ∧ Only b w w'))
    (WR : Hid (∀ w, Calls Try.prog 124 #[.string ⟨id.toArray⟩] w fun e w' => e = .returned (.int .i64 wn) ∧ w = w'))
    (hbad : ¬ (wn : Int) < id.length) (E2 : m1 = m2)
    (SZ : Hid (∀ w, RdAt w b m2 → Calls Try.prog 125 #[.int .i64 4, .pointer (some ⟨b, 0, none⟩)] w fun e w' => e = .returned (.int .i64 many) ∧ RdAt w' b m3 ∧ Only b w w'))
    (B2 : Hid (∀ w, RdAt w b m3 → Calls Try.prog 93 #[.pointer (some ⟨b, 0, none⟩), .int .i64 2] w fun e w' => e = .returned (.int .u64 ((st.toNat * 256 + fm.toNat : Nat) : Int)) ∧ RdAt w' b m4 ∧ Only b w w'))
    (EF : bits .or .u8 (fm.toNat : Int) 2 = (fm'.toNat : Int))
    (AT2 : Hid (∀ w, RdAt w b m4 → Calls Try.prog 98 #[.pointer (some ⟨b, 0, none⟩)] w fun e w' => e = .returned (.int .i64 at2) ∧ w = w'))
    (T5 : Hid (∀ w, RdAt w b m4 → Calls Try.prog 54 #[.pointer (some ⟨b, 0, none⟩), .int .i64 many] w fun e w' => e = .returned (.string ⟨data.toArray⟩) ∧ RdAt w' b m5 ∧ Only b w w'))
    (FA5 : Hid (∀ w, RdAt w b m5 → Calls Try.prog 56 #[.pointer (some ⟨b, 0, none⟩)] w fun e w' => e = .returned (.agg #[.int .i64 c5, .int .i64 q5]) ∧ Below w.heap.size w w'))
    (FI : Hid (∀ pb w, w.heap[pb]? = some (.cells (frC id st fm' 0 [] at0) 47 (0, 0)) → Calls Try.prog 126 #[.pointer (some ⟨pb, 0, none⟩), .int .i64 4, .string ⟨data.toArray⟩, .int .i64 at2] w (FillSays pb id st fm' gr bo at0 c p w)))
    (FL2 : Hid (∀ w, RdAt w b m5 → Calls Try.prog 94 #[.pointer (some ⟨b, 0, none⟩), .int .i64 c, .int .i64 p] w fun e w' => e = .returned (.tuple #[]) ∧ RdAt w' b m6 ∧ Only b w w'))
    (HC : (c5 ≠ 0 ∧ mR = m5 ∧ fR = zeroF ∧ ok = false) ∨ (c5 = 0 ∧ ((c ≠ 0 ∧ mR = m6 ∧ fR = zeroF ∧ ok = false) ∨ (c = 0 ∧ mR = m5 ∧ fR = ⟨id, st, fm', gr, bo, at0⟩ ∧ ok = true))))
    : Calls Try.prog 89 #[.int .i64 4, .pointer (some ⟨b, 0, none⟩), .bool true] w (FParse b mR fR ok w) := by
  subst E2
  have hlt := h.lt
  obtain ⟨rb, hR⟩ : ∃ x, x = w.heap.size := ⟨_, rfl⟩
  have HR := Lib.hid hR
  have BD := Lib.hid (fun w => bad_any 0 q0 w)
  rw [show ((0 : Int) != 0) = false by rfl] at BD
  have BD5 := Lib.hid (fun w => bad_any c5 q5 w)
  have S0 : Hid (ST w (w.alloc (.cells #[.string ⟨#[]⟩, .int .u8 0, .int .u8 0, .int .u8 0, .string ⟨#[]⟩, .int .i64 0] 47)) b w.heap.size _ 47 w.heap.size _ 47) := Lib.hid ⟨at_a0 _ _ _, at_a0 _ _ _, Only.of_below ((Below.refl _ _).alloc (Nat.le_refl _) _)⟩
  have R0 := Lib.hid (h.alloc (.cells #[.string ⟨#[]⟩, .int .u8 0, .int .u8 0, .int .u8 0, .string ⟨#[]⟩, .int .i64 0] 47))
  clear h
  have hst := byte_le st
  have hfm := byte_le fm
  go_enter Try.func89, Try.ntmps89
  go_upto_region 4 with (first | (go_at_call 75; (with_reducible refine (LT.out _).mono ?_); rintro e wx ⟨rfl, rfl⟩; skip) | (go_at_call 56; (with_reducible refine (FA.out _ R0.out).mono ?_); rintro e w1 ⟨rfl, hb1⟩; have S1 := Lib.hid (S0.out.below hb1); have R1 := Lib.hid (R0.out.below hb1); obtain ⟨z10, z11, z12, z13, z14, z15⟩ := cells6 (S1.out.zr); obtain ⟨z1f0, z1f1, z1f2, z1f3, z1f4, z1f5⟩ := frees6 (S1.out.zr); clear hb1) | (go_at_call 16; (with_reducible refine (BD.out _).mono ?_); rintro e w2 ⟨rfl, hb2⟩; have S2 := Lib.hid (S1.out.below hb2); have R2 := Lib.hid (R1.out.below hb2); obtain ⟨z20, z21, z22, z23, z24, z25⟩ := cells6 (S2.out.zr); obtain ⟨z2f0, z2f1, z2f2, z2f3, z2f4, z2f5⟩ := frees6 (S2.out.zr); clear hb2) | (go_at_call 99; (with_reducible refine (LE.out _ R2.out).mono ?_); rintro e w3 ⟨rfl, hb3⟩; have S3 := Lib.hid (S2.out.below hb3); have R3 := Lib.hid (R2.out.below hb3); obtain ⟨z30, z31, z32, z33, z34, z35⟩ := cells6 (S3.out.zr); obtain ⟨z3f0, z3f1, z3f2, z3f3, z3f4, z3f5⟩ := frees6 (S3.out.zr); clear hb3) | (go_at_call 123; (with_reducible refine (PK.out _ R3.out).mono ?_); rintro e w4 ⟨rfl, hb4⟩; have S4 := Lib.hid (S3.out.below hb4); have R4 := Lib.hid (R3.out.below hb4); obtain ⟨z40, z41, z42, z43, z44, z45⟩ := cells6 (S4.out.zr); obtain ⟨z4f0, z4f1, z4f2, z4f3, z4f4, z4f5⟩ := frees6 (S4.out.zr); clear hb4))
  generalize hrb0 : w.heap.size = rb at *
  have hrn : w.heap.size ≤ rb := Nat.le_of_eq hrb0
  have hrb : rb ≠ b := by omega
  have hbr : b ≠ rb := by omega
  have HRB := Lib.hid hrb0
  clear hrb0 S0 S1 S2 S3 R0 R1 R2 R3 BD LT FA LE PK hl hs z10 z1f0 z11 z1f1 z12 z1f2 z13 z1f3 z14 z1f4 z15 z1f5 z20 z2f0 z21 z2f1 z22 z2f2 z23 z2f3 z24 z2f4 z25 z2f5 z30 z3f0 z31 z3f1 z32 z3f2 z33 z3f3 z34 z3f4 z35 z3f5 z40 z4f0 z41 z4f1 z42 z4f2 z43 z4f3 z44 z4f4 z45 z4f5
  go_upto_region 5 with (first | (go_at_call 98; (with_reducible refine (AT0.out _ R4.out).mono ?_); rintro e wx ⟨rfl, rfl⟩; skip))
  have S5 : Hid (ST w (w4.alloc (.cells #[.string ⟨#[]⟩, .int .u8 0, .int .u8 0, .int .u8 0, .string ⟨#[]⟩, .int .i64 at0] 47)) b w4.heap.size #[.string ⟨#[]⟩, .int .u8 0, .int .u8 0, .int .u8 0, .string ⟨#[]⟩, .int .i64 at0] 47 rb #[.string ⟨#[]⟩, .int .u8 0, .int .u8 0, .int .u8 0, .string ⟨#[]⟩, .int .i64 0] 47) := Lib.hid ⟨at_a0 _ _ _, block_below S4.out.zr ((Below.refl _ _).alloc (Nat.le_refl _) _), S4.out.on.trans (Only.of_below ((Below.refl _ _).alloc (Nat.le_refl _) _))⟩
  have R5 := Lib.hid (R4.out.alloc (.cells #[.string ⟨#[]⟩, .int .u8 0, .int .u8 0, .int .u8 0, .string ⟨#[]⟩, .int .i64 at0] 47))
  have h81 := (Array.getElem?_eq_some_iff.1 S4.out.zr).1
  have h82 := R4.out.lt
  have h83 := S4.out.on.size
  generalize w4.alloc (.cells #[.string ⟨#[]⟩, .int .u8 0, .int .u8 0, .int .u8 0, .string ⟨#[]⟩, .int .i64 at0] 47) = w5 at *
  generalize w4.heap.size = pb at *
  have hpb : pb ≠ b := by omega
  have hbp : b ≠ pb := by omega
  have hrp : rb ≠ pb := by omega
  have hpr : pb ≠ rb := by omega
  have hpn := h83
  clear h81 h82 h83 S4 R4 AT0
  obtain ⟨b50, b51, b52, b53, b54, b55⟩ := cells6 (S5.out.fr); obtain ⟨b5f0, b5f1, b5f2, b5f3, b5f4, b5f5⟩ := frees6 (S5.out.fr)
  go_upto_region 6 with (first | (go_at_call 54; (with_reducible refine (T1.out _ R5.out).mono ?_); rintro e w6 ⟨rfl, r6, o6⟩; have R6 := Lib.hid r6; have S6 := Lib.hid (S5.out.read o6 hpb hrb (.inl rfl)); obtain ⟨b60, b61, b62, b63, b64, b65⟩ := cells6 (S6.out.fr); obtain ⟨b6f0, b6f1, b6f2, b6f3, b6f4, b6f5⟩ := frees6 (S6.out.fr); obtain ⟨z60, z61, z62, z63, z64, z65⟩ := cells6 (S6.out.zr); obtain ⟨z6f0, z6f1, z6f2, z6f3, z6f4, z6f5⟩ := frees6 (S6.out.zr); clear r6 o6))
  have S7 : Hid (ST w (w6.setCell ⟨pb, 0, none⟩ (.string ⟨id.toArray⟩)) b pb #[.string ⟨id.toArray⟩, .int .u8 0, .int .u8 0, .int .u8 0, .string ⟨#[]⟩, .int .i64 at0] 47 rb #[.string ⟨#[]⟩, .int .u8 0, .int .u8 0, .int .u8 0, .string ⟨#[]⟩, .int .i64 0] 47) := Lib.hid (S6.out.put 0 (.string ⟨id.toArray⟩) hrp (.inr hpn))
  have R7 := Lib.hid (R6.out.putO hbp (.string ⟨id.toArray⟩) (j := 0))
  generalize (w6.setCell ⟨pb, 0, none⟩ (.string ⟨id.toArray⟩)) = w7 at *
  obtain ⟨b70, b71, b72, b73, b74, b75⟩ := cells6 (S7.out.fr); obtain ⟨b7f0, b7f1, b7f2, b7f3, b7f4, b7f5⟩ := frees6 (S7.out.fr)
  clear S5 S6 R5 R6 T1 b50 b5f0 b51 b5f1 b52 b5f2 b53 b5f3 b54 b5f4 b55 b5f5 b60 b6f0 b61 b6f1 b62 b6f2 b63 b6f3 b64 b6f4 b65 b6f5
  go_upto_region 9 with (first | (go_at_call 124; (with_reducible refine (WR.out _).mono ?_); rintro e wx ⟨rfl, rfl⟩; skip))
  go_upto_region 14 with (first | (go_at_call 125; (with_reducible refine (SZ.out _ R7.out).mono ?_); rintro e w9 ⟨rfl, r9, o9⟩; have R9 := Lib.hid r9; have S9 := Lib.hid (S7.out.read o9 hpb hrb (.inl rfl)); obtain ⟨b90, b91, b92, b93, b94, b95⟩ := cells6 (S9.out.fr); obtain ⟨b9f0, b9f1, b9f2, b9f3, b9f4, b9f5⟩ := frees6 (S9.out.fr); obtain ⟨z90, z91, z92, z93, z94, z95⟩ := cells6 (S9.out.zr); obtain ⟨z9f0, z9f1, z9f2, z9f3, z9f4, z9f5⟩ := frees6 (S9.out.zr); clear r9 o9) | (go_at_call 93; (with_reducible refine (B2.out _ R9.out).mono ?_); rintro e w10 ⟨rfl, r10, o10⟩; have R10 := Lib.hid r10; have S10 := Lib.hid (S9.out.read o10 hpb hrb (.inl rfl)); obtain ⟨b100, b101, b102, b103, b104, b105⟩ := cells6 (S10.out.fr); obtain ⟨b10f0, b10f1, b10f2, b10f3, b10f4, b10f5⟩ := frees6 (S10.out.fr); obtain ⟨z100, z101, z102, z103, z104, z105⟩ := cells6 (S10.out.zr); obtain ⟨z10f0, z10f1, z10f2, z10f3, z10f4, z10f5⟩ := frees6 (S10.out.zr); clear r10 o10))
  rw [show ((st.toNat : Int) * 256 + fm.toNat) / 256 = st.toNat by omega, show (fm.toNat : Int) % 256 = fm.toNat by omega]
  have S11 : Hid (ST w ((w10.setCell ⟨pb, 1, none⟩ (.int .u8 st.toNat)).setCell ⟨pb, 2, none⟩ (.int .u8 fm.toNat)) b pb #[.string ⟨id.toArray⟩, .int .u8 st.toNat, .int .u8 fm.toNat, .int .u8 0, .string ⟨#[]⟩, .int .i64 at0] 47 rb #[.string ⟨#[]⟩, .int .u8 0, .int .u8 0, .int .u8 0, .string ⟨#[]⟩, .int .i64 0] 47) := Lib.hid ((S10.out.put 1 (.int .u8 st.toNat) hrp (.inr hpn)).put 2 (.int .u8 fm.toNat) hrp (.inr hpn))
  have R11 := Lib.hid ((R10.out.putO hbp (.int .u8 st.toNat) (j := 1)).putO hbp (.int .u8 fm.toNat) (j := 2))
  generalize ((w10.setCell ⟨pb, 1, none⟩ (.int .u8 st.toNat)).setCell ⟨pb, 2, none⟩ (.int .u8 fm.toNat)) = w11 at *
  obtain ⟨b110, b111, b112, b113, b114, b115⟩ := cells6 (S11.out.fr); obtain ⟨b11f0, b11f1, b11f2, b11f3, b11f4, b11f5⟩ := frees6 (S11.out.fr)
  clear S7 S9 S10 R7 R9 R10 b70 b7f0 b71 b7f1 b72 b7f2 b73 b7f3 b74 b7f4 b75 b7f5 b90 b9f0 b91 b9f1 b92 b9f2 b93 b9f3 b94 b9f4 b95 b9f5 b100 b10f0 b101 b10f1 b102 b10f2 b103 b10f3 b104 b10f4 b105 b10f5
  go_upto_region 16 with fail
  have S12 : Hid (ST w (w11.setCell ⟨pb, 2, none⟩ (.int .u8 fm'.toNat)) b pb #[.string ⟨id.toArray⟩, .int .u8 st.toNat, .int .u8 fm'.toNat, .int .u8 0, .string ⟨#[]⟩, .int .i64 at0] 47 rb #[.string ⟨#[]⟩, .int .u8 0, .int .u8 0, .int .u8 0, .string ⟨#[]⟩, .int .i64 0] 47) := Lib.hid (S11.out.put 2 (.int .u8 fm'.toNat) hrp (.inr hpn))
  have R12 := Lib.hid (R11.out.putO hbp (.int .u8 fm'.toNat) (j := 2))
  generalize (w11.setCell ⟨pb, 2, none⟩ (.int .u8 fm'.toNat)) = w12 at *
  obtain ⟨b120, b121, b122, b123, b124, b125⟩ := cells6 (S12.out.fr); obtain ⟨b12f0, b12f1, b12f2, b12f3, b12f4, b12f5⟩ := frees6 (S12.out.fr)
  rcases HC with ⟨hc5, rfl, rfl, rfl⟩ | ⟨rfl, HC⟩
  · rw [show (c5 != 0) = true by simpa using hc5] at BD5
    go_wp2_with (first | (go_at_call 98; (with_reducible refine (AT2.out _ R12.out).mono ?_); rintro e wx ⟨rfl, rfl⟩; skip) | (go_at_call 54; (with_reducible refine (T5.out _ R12.out).mono ?_); rintro e w13 ⟨rfl, r13, o13⟩; have R13 := Lib.hid r13; have S13 := Lib.hid (S12.out.read o13 hpb hrb (.inl rfl)); obtain ⟨b130, b131, b132, b133, b134, b135⟩ := cells6 (S13.out.fr); obtain ⟨b13f0, b13f1, b13f2, b13f3, b13f4, b13f5⟩ := frees6 (S13.out.fr); obtain ⟨z130, z131, z132, z133, z134, z135⟩ := cells6 (S13.out.zr); obtain ⟨z13f0, z13f1, z13f2, z13f3, z13f4, z13f5⟩ := frees6 (S13.out.zr); clear r13 o13) | (go_at_call 56; (with_reducible refine (FA5.out _ R13.out).mono ?_); rintro e w14 ⟨rfl, hb14⟩; have S14 := Lib.hid (S13.out.below hb14); have R14 := Lib.hid (R13.out.below hb14); obtain ⟨b140, b141, b142, b143, b144, b145⟩ := cells6 (S14.out.fr); obtain ⟨b14f0, b14f1, b14f2, b14f3, b14f4, b14f5⟩ := frees6 (S14.out.fr); obtain ⟨z140, z141, z142, z143, z144, z145⟩ := cells6 (S14.out.zr); obtain ⟨z14f0, z14f1, z14f2, z14f3, z14f4, z14f5⟩ := frees6 (S14.out.zr); clear hb14) | (go_at_call 16; (with_reducible refine (BD5.out _).mono ?_); rintro e w15 ⟨rfl, hb15⟩; have S15 := Lib.hid (S14.out.below hb15); have R15 := Lib.hid (R14.out.below hb15); obtain ⟨b150, b151, b152, b153, b154, b155⟩ := cells6 (S15.out.fr); obtain ⟨b15f0, b15f1, b15f2, b15f3, b15f4, b15f5⟩ := frees6 (S15.out.fr); obtain ⟨z150, z151, z152, z153, z154, z155⟩ := cells6 (S15.out.zr); obtain ⟨z15f0, z15f1, z15f2, z15f3, z15f4, z15f5⟩ := frees6 (S15.out.zr); clear hb15))
    refine end_cell_tmp rfl rfl rfl (store6 S15.out.zr rfl) Try.underlying47 rfl (by kernel_rfl) ⟨rfl, ?_, ?_⟩
    · exact (((((R15.out.putO hbr _).putO hbr _).putO hbr _).putO hbr _).putO hbr _).putO hbr _
    · exact ((((((S15.out.on.other (Only.set _) (.inr hrn)).other (Only.set _) (.inr hrn)).other (Only.set _) (.inr hrn)).other (Only.set _) (.inr hrn)).other (Only.set _) (.inr hrn)).other (Only.set _) (.inr hrn))
  rw [show ((0 : Int) != 0) = false by rfl] at BD5
  go_upto_region 20 with (first | (go_at_call 98; (with_reducible refine (AT2.out _ R12.out).mono ?_); rintro e wx ⟨rfl, rfl⟩; skip) | (go_at_call 54; (with_reducible refine (T5.out _ R12.out).mono ?_); rintro e w13 ⟨rfl, r13, o13⟩; have R13 := Lib.hid r13; have S13 := Lib.hid (S12.out.read o13 hpb hrb (.inl rfl)); obtain ⟨b130, b131, b132, b133, b134, b135⟩ := cells6 (S13.out.fr); obtain ⟨b13f0, b13f1, b13f2, b13f3, b13f4, b13f5⟩ := frees6 (S13.out.fr); obtain ⟨z130, z131, z132, z133, z134, z135⟩ := cells6 (S13.out.zr); obtain ⟨z13f0, z13f1, z13f2, z13f3, z13f4, z13f5⟩ := frees6 (S13.out.zr); clear r13 o13) | (go_at_call 56; (with_reducible refine (FA5.out _ R13.out).mono ?_); rintro e w14 ⟨rfl, hb14⟩; have S14 := Lib.hid (S13.out.below hb14); have R14 := Lib.hid (R13.out.below hb14); obtain ⟨b140, b141, b142, b143, b144, b145⟩ := cells6 (S14.out.fr); obtain ⟨b14f0, b14f1, b14f2, b14f3, b14f4, b14f5⟩ := frees6 (S14.out.fr); obtain ⟨z140, z141, z142, z143, z144, z145⟩ := cells6 (S14.out.zr); obtain ⟨z14f0, z14f1, z14f2, z14f3, z14f4, z14f5⟩ := frees6 (S14.out.zr); clear hb14) | (go_at_call 16; (with_reducible refine (BD5.out _).mono ?_); rintro e w15 ⟨rfl, hb15⟩; have S15 := Lib.hid (S14.out.below hb15); have R15 := Lib.hid (R14.out.below hb15); obtain ⟨b150, b151, b152, b153, b154, b155⟩ := cells6 (S15.out.fr); obtain ⟨b15f0, b15f1, b15f2, b15f3, b15f4, b15f5⟩ := frees6 (S15.out.fr); obtain ⟨z150, z151, z152, z153, z154, z155⟩ := cells6 (S15.out.zr); obtain ⟨z15f0, z15f1, z15f2, z15f3, z15f4, z15f5⟩ := frees6 (S15.out.zr); clear hb15))
  have HF := Lib.hid (show w15.heap[pb]? = some (.cells (frC id st fm' 0 [] at0) 47 (0, 0)) from S15.out.fr)
  have BD2 := Lib.hid (fun w => bad_any c p w)
  rcases HC with ⟨hc, rfl, rfl, rfl⟩ | ⟨rfl, rfl, rfl, rfl⟩
  · rw [show (c != 0) = true by simpa using hc] at BD2
    go_wp2_with (first | (go_at_call 126; (with_reducible refine (FI.out pb _ HF.out).mono ?_); rintro e w16 ⟨rfl, o16, f16⟩; have R16 := Lib.hid (R15.out.only o16 hbp); have S16 : Hid (ST w w16 b rb #[.string ⟨#[]⟩, .int .u8 0, .int .u8 0, .int .u8 0, .string ⟨#[]⟩, .int .i64 0] 47 rb #[.string ⟨#[]⟩, .int .u8 0, .int .u8 0, .int .u8 0, .string ⟨#[]⟩, .int .i64 0] 47) := Lib.hid ⟨block_only S15.out.zr o16 hrp, block_only S15.out.zr o16 hrp, S15.out.on.other o16 (.inr hpn)⟩; clear o16 f16) | (go_at_call 16; (with_reducible refine (BD2.out _).mono ?_); rintro e w17 ⟨rfl, hb17⟩; have S17 := Lib.hid ((S16.out.alloc _).below hb17); have R17 := Lib.hid ((R16.out.alloc _).below hb17); obtain ⟨z170, z171, z172, z173, z174, z175⟩ := cells6 (S17.out.zr); obtain ⟨z17f0, z17f1, z17f2, z17f3, z17f4, z17f5⟩ := frees6 (S17.out.zr); have X17 := block_below (at_a0 w16 _ _) hb17; obtain ⟨x0, x1⟩ := cells2 (X17); clear hb17) | (go_at_call 94; (with_reducible refine (FL2.out _ R17.out).mono ?_); rintro e w18 ⟨rfl, r18, o18⟩; have R18 := Lib.hid r18; have S18 := Lib.hid (S17.out.read o18 hrb hrb (.inl rfl)); obtain ⟨z180, z181, z182, z183, z184, z185⟩ := cells6 (S18.out.zr); obtain ⟨z18f0, z18f1, z18f2, z18f3, z18f4, z18f5⟩ := frees6 (S18.out.zr); clear r18 o18))
    refine end_cell_tmp rfl rfl rfl (store6 S18.out.zr rfl) Try.underlying47 rfl (by kernel_rfl) ⟨rfl, ?_, ?_⟩
    · exact (((((R18.out.putO hbr _).putO hbr _).putO hbr _).putO hbr _).putO hbr _).putO hbr _
    · exact ((((((S18.out.on.other (Only.set _) (.inr hrn)).other (Only.set _) (.inr hrn)).other (Only.set _) (.inr hrn)).other (Only.set _) (.inr hrn)).other (Only.set _) (.inr hrn)).other (Only.set _) (.inr hrn))
  · rw [show ((0 : Int) != 0) = false by rfl] at BD2
    go_wp2_with (first | (go_at_call 126; (with_reducible refine (FI.out pb _ HF.out).mono ?_); rintro e w16 ⟨rfl, o16, f16⟩; have R16 := Lib.hid (R15.out.only o16 hbp); have S16 : Hid (ST w w16 b pb #[.string ⟨id.toArray⟩, .int .u8 st.toNat, .int .u8 fm'.toNat, .int .u8 gr.toNat, .string ⟨bo.toArray⟩, .int .i64 at0] 47 rb #[.string ⟨#[]⟩, .int .u8 0, .int .u8 0, .int .u8 0, .string ⟨#[]⟩, .int .i64 0] 47) := Lib.hid ⟨f16 rfl, block_only S15.out.zr o16 hrp, S15.out.on.other o16 (.inr hpn)⟩; clear o16 f16) | (go_at_call 16; (with_reducible refine (BD2.out _).mono ?_); rintro e w17 ⟨rfl, hb17⟩; have S17 := Lib.hid ((S16.out.alloc _).below hb17); have R17 := Lib.hid ((R16.out.alloc _).below hb17); obtain ⟨b170, b171, b172, b173, b174, b175⟩ := cells6 (S17.out.fr); obtain ⟨b17f0, b17f1, b17f2, b17f3, b17f4, b17f5⟩ := frees6 (S17.out.fr); obtain ⟨z170, z171, z172, z173, z174, z175⟩ := cells6 (S17.out.zr); obtain ⟨z17f0, z17f1, z17f2, z17f3, z17f4, z17f5⟩ := frees6 (S17.out.zr); have X17 := block_below (at_a0 w16 _ _) hb17; obtain ⟨x0, x1⟩ := cells2 (X17); clear hb17))
    refine end_cell_tmp rfl rfl rfl (store6 S17.out.zr rfl) Try.underlying47 rfl (by kernel_rfl) ⟨rfl, ?_, ?_⟩
    · exact (((((R17.out.putO hbr _).putO hbr _).putO hbr _).putO hbr _).putO hbr _).putO hbr _
    · exact ((((((S17.out.on.other (Only.set _) (.inr hrn)).other (Only.set _) (.inr hrn)).other (Only.set _) (.inr hrn)).other (Only.set _) (.inr hrn)).other (Only.set _) (.inr hrn)).other (Only.set _) (.inr hrn))
set_option maxHeartbeats 4000000 in
set_option maxRecDepth 100000 in
theorem fparse_210 (b : Nat) (m m1 m2 m3 m4 m5 m6 mR : Rd) (q0 l0 at0 at2 c5 q5 c p : Int) (wn many : Nat) (s id data bo : List UInt8) (st fm fm' gr : UInt8) (fR : Fr) (ok sp : Bool) (w : World) (h : RdAt w b m)
    (LT : Hid (∀ w, Calls Try.prog 75 #[.int .i64 2] w fun e w' => e = .returned (.int .i64 3) ∧ w = w'))
    (FA : Hid (∀ w, RdAt w b m → Calls Try.prog 56 #[.pointer (some ⟨b, 0, none⟩)] w fun e w' => e = .returned (.agg #[.int .i64 0, .int .i64 q0]) ∧ Below w.heap.size w w'))
    (LE : Hid (∀ w, RdAt w b m → Calls Try.prog 99 #[.pointer (some ⟨b, 0, none⟩)] w fun e w' => e = .returned (.int .i64 l0) ∧ Below w.heap.size w w'))
    (PK : Hid (∀ w, RdAt w b m → Calls Try.prog 123 #[.pointer (some ⟨b, 0, none⟩), .int .i64 1] w fun e w' => e = .returned (.string ⟨s.toArray⟩) ∧ Below w.heap.size w w'))
    (hl : (l0 == 0) = false) (hs : (s == [0]) = false)
    (AT0 : Hid (∀ w, RdAt w b m → Calls Try.prog 98 #[.pointer (some ⟨b, 0, none⟩)] w fun e w' => e = .returned (.int .i64 at0) ∧ w = w'))
    (T1 : Hid (∀ w, RdAt w b m → Calls Try.prog 54 #[.pointer (some ⟨b, 0, none⟩), .int .i64 3] w fun e w' => e = .returned (.string ⟨id.toArray⟩) ∧ RdAt w' b m1 ∧ Only b w w'))
    (WR : Hid (∀ w, Calls Try.prog 124 #[.string ⟨id.toArray⟩] w fun e w' => e = .returned (.int .i64 wn) ∧ w = w'))
    (hbad : (wn : Int) < id.length) (hat : 0 ≤ at0 ∧ at0 ≤ 4000000000000) (hid : id.length ≤ 4)
    (FL : Hid (∀ w, RdAt w b m1 → Calls Try.prog 94 #[.pointer (some ⟨b, 0, none⟩), .int .i64 1, .int .i64 (at0 + wn)] w fun e w' => e = .returned (.tuple #[]) ∧ RdAt w' b m2 ∧ Only b w w'))
    (SZ : Hid (∀ w, RdAt w b m2 → Calls Try.prog 125 #[.int .i64 2, .pointer (some ⟨b, 0, none⟩)] w fun e w' => e = .returned (.int .i64 many) ∧ RdAt w' b m3 ∧ Only b w w'))
    (E4 : m3 = m4) (E5 : st = 0) (E6 : fm = 0)
    (EF : fm = fm')
    (AT2 : Hid (∀ w, RdAt w b m4 → Calls Try.prog 98 #[.pointer (some ⟨b, 0, none⟩)] w fun e w' => e = .returned (.int .i64 at2) ∧ w = w'))
    (T5 : Hid (∀ w, RdAt w b m4 → Calls Try.prog 54 #[.pointer (some ⟨b, 0, none⟩), .int .i64 many] w fun e w' => e = .returned (.string ⟨data.toArray⟩) ∧ RdAt w' b m5 ∧ Only b w w'))
    (FA5 : Hid (∀ w, RdAt w b m5 → Calls Try.prog 56 #[.pointer (some ⟨b, 0, none⟩)] w fun e w' => e = .returned (.agg #[.int .i64 c5, .int .i64 q5]) ∧ Below w.heap.size w w'))
    (hc5 : c5 ≠ 0) (ER : mR = m5) (EF2 : fR = zeroF) (EO : ok = false)
    : Calls Try.prog 89 #[.int .i64 2, .pointer (some ⟨b, 0, none⟩), .bool sp] w (FParse b mR fR ok w) := by
  subst E4 E5 E6
  subst EF
  subst ER EF2 EO
  have hlt := h.lt
  obtain ⟨rb, hR⟩ : ∃ x, x = w.heap.size := ⟨_, rfl⟩
  have HR := Lib.hid hR
  have BD := Lib.hid (fun w => bad_any 0 q0 w)
  rw [show ((0 : Int) != 0) = false by rfl] at BD
  have BD5 := Lib.hid (fun w => bad_any c5 q5 w)
  have S0 : Hid (ST w (w.alloc (.cells #[.string ⟨#[]⟩, .int .u8 0, .int .u8 0, .int .u8 0, .string ⟨#[]⟩, .int .i64 0] 47)) b w.heap.size _ 47 w.heap.size _ 47) := Lib.hid ⟨at_a0 _ _ _, at_a0 _ _ _, Only.of_below ((Below.refl _ _).alloc (Nat.le_refl _) _)⟩
  have R0 := Lib.hid (h.alloc (.cells #[.string ⟨#[]⟩, .int .u8 0, .int .u8 0, .int .u8 0, .string ⟨#[]⟩, .int .i64 0] 47))
  clear h
  go_enter Try.func89, Try.ntmps89
  go_upto_region 4 with (first | (go_at_call 75; (with_reducible refine (LT.out _).mono ?_); rintro e wx ⟨rfl, rfl⟩; skip) | (go_at_call 56; (with_reducible refine (FA.out _ R0.out).mono ?_); rintro e w1 ⟨rfl, hb1⟩; have S1 := Lib.hid (S0.out.below hb1); have R1 := Lib.hid (R0.out.below hb1); obtain ⟨z10, z11, z12, z13, z14, z15⟩ := cells6 (S1.out.zr); obtain ⟨z1f0, z1f1, z1f2, z1f3, z1f4, z1f5⟩ := frees6 (S1.out.zr); clear hb1) | (go_at_call 16; (with_reducible refine (BD.out _).mono ?_); rintro e w2 ⟨rfl, hb2⟩; have S2 := Lib.hid (S1.out.below hb2); have R2 := Lib.hid (R1.out.below hb2); obtain ⟨z20, z21, z22, z23, z24, z25⟩ := cells6 (S2.out.zr); obtain ⟨z2f0, z2f1, z2f2, z2f3, z2f4, z2f5⟩ := frees6 (S2.out.zr); clear hb2) | (go_at_call 99; (with_reducible refine (LE.out _ R2.out).mono ?_); rintro e w3 ⟨rfl, hb3⟩; have S3 := Lib.hid (S2.out.below hb3); have R3 := Lib.hid (R2.out.below hb3); obtain ⟨z30, z31, z32, z33, z34, z35⟩ := cells6 (S3.out.zr); obtain ⟨z3f0, z3f1, z3f2, z3f3, z3f4, z3f5⟩ := frees6 (S3.out.zr); clear hb3) | (go_at_call 123; (with_reducible refine (PK.out _ R3.out).mono ?_); rintro e w4 ⟨rfl, hb4⟩; have S4 := Lib.hid (S3.out.below hb4); have R4 := Lib.hid (R3.out.below hb4); obtain ⟨z40, z41, z42, z43, z44, z45⟩ := cells6 (S4.out.zr); obtain ⟨z4f0, z4f1, z4f2, z4f3, z4f4, z4f5⟩ := frees6 (S4.out.zr); clear hb4))
  generalize hrb0 : w.heap.size = rb at *
  have hrn : w.heap.size ≤ rb := Nat.le_of_eq hrb0
  have hrb : rb ≠ b := by omega
  have hbr : b ≠ rb := by omega
  have HRB := Lib.hid hrb0
  clear hrb0 S0 S1 S2 S3 R0 R1 R2 R3 BD LT FA LE PK hl hs z10 z1f0 z11 z1f1 z12 z1f2 z13 z1f3 z14 z1f4 z15 z1f5 z20 z2f0 z21 z2f1 z22 z2f2 z23 z2f3 z24 z2f4 z25 z2f5 z30 z3f0 z31 z3f1 z32 z3f2 z33 z3f3 z34 z3f4 z35 z3f5 z40 z4f0 z41 z4f1 z42 z4f2 z43 z4f3 z44 z4f4 z45 z4f5
  go_upto_region 5 with (first | (go_at_call 98; (with_reducible refine (AT0.out _ R4.out).mono ?_); rintro e wx ⟨rfl, rfl⟩; skip))
  have S5 : Hid (ST w (w4.alloc (.cells #[.string ⟨#[]⟩, .int .u8 0, .int .u8 0, .int .u8 0, .string ⟨#[]⟩, .int .i64 at0] 47)) b w4.heap.size #[.string ⟨#[]⟩, .int .u8 0, .int .u8 0, .int .u8 0, .string ⟨#[]⟩, .int .i64 at0] 47 rb #[.string ⟨#[]⟩, .int .u8 0, .int .u8 0, .int .u8 0, .string ⟨#[]⟩, .int .i64 0] 47) := Lib.hid ⟨at_a0 _ _ _, block_below S4.out.zr ((Below.refl _ _).alloc (Nat.le_refl _) _), S4.out.on.trans (Only.of_below ((Below.refl _ _).alloc (Nat.le_refl _) _))⟩
  have R5 := Lib.hid (R4.out.alloc (.cells #[.string ⟨#[]⟩, .int .u8 0, .int .u8 0, .int .u8 0, .string ⟨#[]⟩, .int .i64 at0] 47))
  have h81 := (Array.getElem?_eq_some_iff.1 S4.out.zr).1
  have h82 := R4.out.lt
  have h83 := S4.out.on.size
  generalize w4.alloc (.cells #[.string ⟨#[]⟩, .int .u8 0, .int .u8 0, .int .u8 0, .string ⟨#[]⟩, .int .i64 at0] 47) = w5 at *
  generalize w4.heap.size = pb at *
  have hpb : pb ≠ b := by omega
  have hbp : b ≠ pb := by omega
  have hrp : rb ≠ pb := by omega
  have hpr : pb ≠ rb := by omega
  have hpn := h83
  clear h81 h82 h83 S4 R4 AT0
  obtain ⟨b50, b51, b52, b53, b54, b55⟩ := cells6 (S5.out.fr); obtain ⟨b5f0, b5f1, b5f2, b5f3, b5f4, b5f5⟩ := frees6 (S5.out.fr)
  go_upto_region 6 with (first | (go_at_call 54; (with_reducible refine (T1.out _ R5.out).mono ?_); rintro e w6 ⟨rfl, r6, o6⟩; have R6 := Lib.hid r6; have S6 := Lib.hid (S5.out.read o6 hpb hrb (.inl rfl)); obtain ⟨b60, b61, b62, b63, b64, b65⟩ := cells6 (S6.out.fr); obtain ⟨b6f0, b6f1, b6f2, b6f3, b6f4, b6f5⟩ := frees6 (S6.out.fr); obtain ⟨z60, z61, z62, z63, z64, z65⟩ := cells6 (S6.out.zr); obtain ⟨z6f0, z6f1, z6f2, z6f3, z6f4, z6f5⟩ := frees6 (S6.out.zr); clear r6 o6))
  have S7 : Hid (ST w (w6.setCell ⟨pb, 0, none⟩ (.string ⟨id.toArray⟩)) b pb #[.string ⟨id.toArray⟩, .int .u8 0, .int .u8 0, .int .u8 0, .string ⟨#[]⟩, .int .i64 at0] 47 rb #[.string ⟨#[]⟩, .int .u8 0, .int .u8 0, .int .u8 0, .string ⟨#[]⟩, .int .i64 0] 47) := Lib.hid (S6.out.put 0 (.string ⟨id.toArray⟩) hrp (.inr hpn))
  have R7 := Lib.hid (R6.out.putO hbp (.string ⟨id.toArray⟩) (j := 0))
  generalize (w6.setCell ⟨pb, 0, none⟩ (.string ⟨id.toArray⟩)) = w7 at *
  obtain ⟨b70, b71, b72, b73, b74, b75⟩ := cells6 (S7.out.fr); obtain ⟨b7f0, b7f1, b7f2, b7f3, b7f4, b7f5⟩ := frees6 (S7.out.fr)
  clear S5 S6 R5 R6 T1 b50 b5f0 b51 b5f1 b52 b5f2 b53 b5f3 b54 b5f4 b55 b5f5 b60 b6f0 b61 b6f1 b62 b6f2 b63 b6f3 b64 b6f4 b65 b6f5
  go_upto_region 9 with (first | (go_at_call 124; (with_reducible refine (WR.out _).mono ?_); rintro e wx ⟨rfl, rfl⟩; skip) | (go_at_call 94; (with_reducible refine (FL.out _ R7.out).mono ?_); rintro e w8 ⟨rfl, r8, o8⟩; have R8 := Lib.hid r8; have S8 := Lib.hid (S7.out.read o8 hpb hrb (.inl rfl)); obtain ⟨b80, b81, b82, b83, b84, b85⟩ := cells6 (S8.out.fr); obtain ⟨b8f0, b8f1, b8f2, b8f3, b8f4, b8f5⟩ := frees6 (S8.out.fr); obtain ⟨z80, z81, z82, z83, z84, z85⟩ := cells6 (S8.out.zr); obtain ⟨z8f0, z8f1, z8f2, z8f3, z8f4, z8f5⟩ := frees6 (S8.out.zr); clear r8 o8))
  go_upto_region 16 with (first | (go_at_call 125; (with_reducible refine (SZ.out _ R8.out).mono ?_); rintro e w9 ⟨rfl, r9, o9⟩; have R9 := Lib.hid r9; have S9 := Lib.hid (S8.out.read o9 hpb hrb (.inl rfl)); obtain ⟨b90, b91, b92, b93, b94, b95⟩ := cells6 (S9.out.fr); obtain ⟨b9f0, b9f1, b9f2, b9f3, b9f4, b9f5⟩ := frees6 (S9.out.fr); obtain ⟨z90, z91, z92, z93, z94, z95⟩ := cells6 (S9.out.zr); obtain ⟨z9f0, z9f1, z9f2, z9f3, z9f4, z9f5⟩ := frees6 (S9.out.zr); clear r9 o9))
  rw [show (c5 != 0) = true by simpa using hc5] at BD5
  go_wp2_with (first | (go_at_call 98; (with_reducible refine (AT2.out _ R9.out).mono ?_); rintro e wx ⟨rfl, rfl⟩; skip) | (go_at_call 54; (with_reducible refine (T5.out _ R9.out).mono ?_); rintro e w13 ⟨rfl, r13, o13⟩; have R13 := Lib.hid r13; have S13 := Lib.hid (S9.out.read o13 hpb hrb (.inl rfl)); obtain ⟨b130, b131, b132, b133, b134, b135⟩ := cells6 (S13.out.fr); obtain ⟨b13f0, b13f1, b13f2, b13f3, b13f4, b13f5⟩ := frees6 (S13.out.fr); obtain ⟨z130, z131, z132, z133, z134, z135⟩ := cells6 (S13.out.zr); obtain ⟨z13f0, z13f1, z13f2, z13f3, z13f4, z13f5⟩ := frees6 (S13.out.zr); clear r13 o13) | (go_at_call 56; (with_reducible refine (FA5.out _ R13.out).mono ?_); rintro e w14 ⟨rfl, hb14⟩; have S14 := Lib.hid (S13.out.below hb14); have R14 := Lib.hid (R13.out.below hb14); obtain ⟨b140, b141, b142, b143, b144, b145⟩ := cells6 (S14.out.fr); obtain ⟨b14f0, b14f1, b14f2, b14f3, b14f4, b14f5⟩ := frees6 (S14.out.fr); obtain ⟨z140, z141, z142, z143, z144, z145⟩ := cells6 (S14.out.zr); obtain ⟨z14f0, z14f1, z14f2, z14f3, z14f4, z14f5⟩ := frees6 (S14.out.zr); clear hb14) | (go_at_call 16; (with_reducible refine (BD5.out _).mono ?_); rintro e w15 ⟨rfl, hb15⟩; have S15 := Lib.hid (S14.out.below hb15); have R15 := Lib.hid (R14.out.below hb15); obtain ⟨b150, b151, b152, b153, b154, b155⟩ := cells6 (S15.out.fr); obtain ⟨b15f0, b15f1, b15f2, b15f3, b15f4, b15f5⟩ := frees6 (S15.out.fr); obtain ⟨z150, z151, z152, z153, z154, z155⟩ := cells6 (S15.out.zr); obtain ⟨z15f0, z15f1, z15f2, z15f3, z15f4, z15f5⟩ := frees6 (S15.out.zr); clear hb15))
  refine end_cell_tmp rfl rfl rfl (store6 S15.out.zr rfl) Try.underlying47 rfl (by kernel_rfl) ⟨rfl, ?_, ?_⟩
  · exact (((((R15.out.putO hbr _).putO hbr _).putO hbr _).putO hbr _).putO hbr _).putO hbr _
  · exact ((((((S15.out.on.other (Only.set _) (.inr hrn)).other (Only.set _) (.inr hrn)).other (Only.set _) (.inr hrn)).other (Only.set _) (.inr hrn)).other (Only.set _) (.inr hrn)).other (Only.set _) (.inr hrn))
set_option maxHeartbeats 4000000 in
set_option maxRecDepth 100000 in
theorem fparse_310 (b : Nat) (m m1 m2 m3 m4 m5 m6 mR : Rd) (q0 l0 at0 at2 c5 q5 c p : Int) (wn many : Nat) (s id data bo : List UInt8) (st fm fm' gr : UInt8) (fR : Fr) (ok sp : Bool) (w : World) (h : RdAt w b m)
    (LT : Hid (∀ w, Calls Try.prog 75 #[.int .i64 3] w fun e w' => e = .returned (.int .i64 4) ∧ w = w'))
    (FA : Hid (∀ w, RdAt w b m → Calls Try.prog 56 #[.pointer (some ⟨b, 0, none⟩)] w fun e w' => e = .returned (.agg #[.int .i64 0, .int .i64 q0]) ∧ Below w.heap.size w w'))
    (LE : Hid (∀ w, RdAt w b m → Calls Try.prog 99 #[.pointer (some ⟨b, 0, none⟩)] w fun e w' => e = .returned (.int .i64 l0) ∧ Below w.heap.size w w'))
    (PK : Hid (∀ w, RdAt w b m → Calls Try.prog 123 #[.pointer (some ⟨b, 0, none⟩), .int .i64 1] w fun e w' => e = .returned (.string ⟨s.toArray⟩) ∧ Below w.heap.size w w'))
    (hl : (l0 == 0) = false) (hs : (s == [0]) = false)
    (AT0 : Hid (∀ w, RdAt w b m → Calls Try.prog 98 #[.pointer (some ⟨b, 0, none⟩)] w fun e w' => e = .returned (.int .i64 at0) ∧ w = w'))
    (T1 : Hid (∀ w, RdAt w b m → Calls Try.prog 54 #[.pointer (some ⟨b, 0, none⟩), .int .i64 4] w fun e w' => e = .returned (.string ⟨id.toArray⟩) ∧ RdAt w' b m1 ∧ Only b w w'))
    (WR : Hid (∀ w, Calls Try.prog 124 #[.string ⟨id.toArray⟩] w fun e w' => e = .returned (.int .i64 wn) ∧ w = w'))
    (hbad : (wn : Int) < id.length) (hat : 0 ≤ at0 ∧ at0 ≤ 4000000000000) (hid : id.length ≤ 4)
    (FL : Hid (∀ w, RdAt w b m1 → Calls Try.prog 94 #[.pointer (some ⟨b, 0, none⟩), .int .i64 1, .int .i64 (at0 + wn)] w fun e w' => e = .returned (.tuple #[]) ∧ RdAt w' b m2 ∧ Only b w w'))
    (SZ : Hid (∀ w, RdAt w b m2 → Calls Try.prog 125 #[.int .i64 3, .pointer (some ⟨b, 0, none⟩)] w fun e w' => e = .returned (.int .i64 many) ∧ RdAt w' b m3 ∧ Only b w w'))
    (B2 : Hid (∀ w, RdAt w b m3 → Calls Try.prog 93 #[.pointer (some ⟨b, 0, none⟩), .int .i64 2] w fun e w' => e = .returned (.int .u64 ((st.toNat * 256 + fm.toNat : Nat) : Int)) ∧ RdAt w' b m4 ∧ Only b w w'))
    (EF : fm = fm')
    (AT2 : Hid (∀ w, RdAt w b m4 → Calls Try.prog 98 #[.pointer (some ⟨b, 0, none⟩)] w fun e w' => e = .returned (.int .i64 at2) ∧ w = w'))
    (T5 : Hid (∀ w, RdAt w b m4 → Calls Try.prog 54 #[.pointer (some ⟨b, 0, none⟩), .int .i64 many] w fun e w' => e = .returned (.string ⟨data.toArray⟩) ∧ RdAt w' b m5 ∧ Only b w w'))
    (FA5 : Hid (∀ w, RdAt w b m5 → Calls Try.prog 56 #[.pointer (some ⟨b, 0, none⟩)] w fun e w' => e = .returned (.agg #[.int .i64 c5, .int .i64 q5]) ∧ Below w.heap.size w w'))
    (hc5 : c5 ≠ 0) (ER : mR = m5) (EF2 : fR = zeroF) (EO : ok = false)
    : Calls Try.prog 89 #[.int .i64 3, .pointer (some ⟨b, 0, none⟩), .bool sp] w (FParse b mR fR ok w) := by
  subst EF
  subst ER EF2 EO
  have hlt := h.lt
  obtain ⟨rb, hR⟩ : ∃ x, x = w.heap.size := ⟨_, rfl⟩
  have HR := Lib.hid hR
  have BD := Lib.hid (fun w => bad_any 0 q0 w)
  rw [show ((0 : Int) != 0) = false by rfl] at BD
  have BD5 := Lib.hid (fun w => bad_any c5 q5 w)
  have S0 : Hid (ST w (w.alloc (.cells #[.string ⟨#[]⟩, .int .u8 0, .int .u8 0, .int .u8 0, .string ⟨#[]⟩, .int .i64 0] 47)) b w.heap.size _ 47 w.heap.size _ 47) := Lib.hid ⟨at_a0 _ _ _, at_a0 _ _ _, Only.of_below ((Below.refl _ _).alloc (Nat.le_refl _) _)⟩
  have R0 := Lib.hid (h.alloc (.cells #[.string ⟨#[]⟩, .int .u8 0, .int .u8 0, .int .u8 0, .string ⟨#[]⟩, .int .i64 0] 47))
  clear h
  have hst := byte_le st
  have hfm := byte_le fm
  go_enter Try.func89, Try.ntmps89
  go_upto_region 4 with (first | (go_at_call 75; (with_reducible refine (LT.out _).mono ?_); rintro e wx ⟨rfl, rfl⟩; skip) | (go_at_call 56; (with_reducible refine (FA.out _ R0.out).mono ?_); rintro e w1 ⟨rfl, hb1⟩; have S1 := Lib.hid (S0.out.below hb1); have R1 := Lib.hid (R0.out.below hb1); obtain ⟨z10, z11, z12, z13, z14, z15⟩ := cells6 (S1.out.zr); obtain ⟨z1f0, z1f1, z1f2, z1f3, z1f4, z1f5⟩ := frees6 (S1.out.zr); clear hb1) | (go_at_call 16; (with_reducible refine (BD.out _).mono ?_); rintro e w2 ⟨rfl, hb2⟩; have S2 := Lib.hid (S1.out.below hb2); have R2 := Lib.hid (R1.out.below hb2); obtain ⟨z20, z21, z22, z23, z24, z25⟩ := cells6 (S2.out.zr); obtain ⟨z2f0, z2f1, z2f2, z2f3, z2f4, z2f5⟩ := frees6 (S2.out.zr); clear hb2) | (go_at_call 99; (with_reducible refine (LE.out _ R2.out).mono ?_); rintro e w3 ⟨rfl, hb3⟩; have S3 := Lib.hid (S2.out.below hb3); have R3 := Lib.hid (R2.out.below hb3); obtain ⟨z30, z31, z32, z33, z34, z35⟩ := cells6 (S3.out.zr); obtain ⟨z3f0, z3f1, z3f2, z3f3, z3f4, z3f5⟩ := frees6 (S3.out.zr); clear hb3) | (go_at_call 123; (with_reducible refine (PK.out _ R3.out).mono ?_); rintro e w4 ⟨rfl, hb4⟩; have S4 := Lib.hid (S3.out.below hb4); have R4 := Lib.hid (R3.out.below hb4); obtain ⟨z40, z41, z42, z43, z44, z45⟩ := cells6 (S4.out.zr); obtain ⟨z4f0, z4f1, z4f2, z4f3, z4f4, z4f5⟩ := frees6 (S4.out.zr); clear hb4))
  generalize hrb0 : w.heap.size = rb at *
  have hrn : w.heap.size ≤ rb := Nat.le_of_eq hrb0
  have hrb : rb ≠ b := by omega
  have hbr : b ≠ rb := by omega
  have HRB := Lib.hid hrb0
  clear hrb0 S0 S1 S2 S3 R0 R1 R2 R3 BD LT FA LE PK hl hs z10 z1f0 z11 z1f1 z12 z1f2 z13 z1f3 z14 z1f4 z15 z1f5 z20 z2f0 z21 z2f1 z22 z2f2 z23 z2f3 z24 z2f4 z25 z2f5 z30 z3f0 z31 z3f1 z32 z3f2 z33 z3f3 z34 z3f4 z35 z3f5 z40 z4f0 z41 z4f1 z42 z4f2 z43 z4f3 z44 z4f4 z45 z4f5
  go_upto_region 5 with (first | (go_at_call 98; (with_reducible refine (AT0.out _ R4.out).mono ?_); rintro e wx ⟨rfl, rfl⟩; skip))
  have S5 : Hid (ST w (w4.alloc (.cells #[.string ⟨#[]⟩, .int .u8 0, .int .u8 0, .int .u8 0, .string ⟨#[]⟩, .int .i64 at0] 47)) b w4.heap.size #[.string ⟨#[]⟩, .int .u8 0, .int .u8 0, .int .u8 0, .string ⟨#[]⟩, .int .i64 at0] 47 rb #[.string ⟨#[]⟩, .int .u8 0, .int .u8 0, .int .u8 0, .string ⟨#[]⟩, .int .i64 0] 47) := Lib.hid ⟨at_a0 _ _ _, block_below S4.out.zr ((Below.refl _ _).alloc (Nat.le_refl _) _), S4.out.on.trans (Only.of_below ((Below.refl _ _).alloc (Nat.le_refl _) _))⟩
  have R5 := Lib.hid (R4.out.alloc (.cells #[.string ⟨#[]⟩, .int .u8 0, .int .u8 0, .int .u8 0, .string ⟨#[]⟩, .int .i64 at0] 47))
  have h81 := (Array.getElem?_eq_some_iff.1 S4.out.zr).1
  have h82 := R4.out.lt
  have h83 := S4.out.on.size
  generalize w4.alloc (.cells #[.string ⟨#[]⟩, .int .u8 0, .int .u8 0, .int .u8 0, .string ⟨#[]⟩, .int .i64 at0] 47) = w5 at *
  generalize w4.heap.size = pb at *
  have hpb : pb ≠ b := by omega
  have hbp : b ≠ pb := by omega
  have hrp : rb ≠ pb := by omega
  have hpr : pb ≠ rb := by omega
  have hpn := h83
  clear h81 h82 h83 S4 R4 AT0
  obtain ⟨b50, b51, b52, b53, b54, b55⟩ := cells6 (S5.out.fr); obtain ⟨b5f0, b5f1, b5f2, b5f3, b5f4, b5f5⟩ := frees6 (S5.out.fr)
  go_upto_region 6 with (first | (go_at_call 54; (with_reducible refine (T1.out _ R5.out).mono ?_); rintro e w6 ⟨rfl, r6, o6⟩; have R6 := Lib.hid r6; have S6 := Lib.hid (S5.out.read o6 hpb hrb (.inl rfl)); obtain ⟨b60, b61, b62, b63, b64, b65⟩ := cells6 (S6.out.fr); obtain ⟨b6f0, b6f1, b6f2, b6f3, b6f4, b6f5⟩ := frees6 (S6.out.fr); obtain ⟨z60, z61, z62, z63, z64, z65⟩ := cells6 (S6.out.zr); obtain ⟨z6f0, z6f1, z6f2, z6f3, z6f4, z6f5⟩ := frees6 (S6.out.zr); clear r6 o6))
  have S7 : Hid (ST w (w6.setCell ⟨pb, 0, none⟩ (.string ⟨id.toArray⟩)) b pb #[.string ⟨id.toArray⟩, .int .u8 0, .int .u8 0, .int .u8 0, .string ⟨#[]⟩, .int .i64 at0] 47 rb #[.string ⟨#[]⟩, .int .u8 0, .int .u8 0, .int .u8 0, .string ⟨#[]⟩, .int .i64 0] 47) := Lib.hid (S6.out.put 0 (.string ⟨id.toArray⟩) hrp (.inr hpn))
  have R7 := Lib.hid (R6.out.putO hbp (.string ⟨id.toArray⟩) (j := 0))
  generalize (w6.setCell ⟨pb, 0, none⟩ (.string ⟨id.toArray⟩)) = w7 at *
  obtain ⟨b70, b71, b72, b73, b74, b75⟩ := cells6 (S7.out.fr); obtain ⟨b7f0, b7f1, b7f2, b7f3, b7f4, b7f5⟩ := frees6 (S7.out.fr)
  clear S5 S6 R5 R6 T1 b50 b5f0 b51 b5f1 b52 b5f2 b53 b5f3 b54 b5f4 b55 b5f5 b60 b6f0 b61 b6f1 b62 b6f2 b63 b6f3 b64 b6f4 b65 b6f5
  go_upto_region 9 with (first | (go_at_call 124; (with_reducible refine (WR.out _).mono ?_); rintro e wx ⟨rfl, rfl⟩; skip) | (go_at_call 94; (with_reducible refine (FL.out _ R7.out).mono ?_); rintro e w8 ⟨rfl, r8, o8⟩; have R8 := Lib.hid r8; have S8 := Lib.hid (S7.out.read o8 hpb hrb (.inl rfl)); obtain ⟨b80, b81, b82, b83, b84, b85⟩ := cells6 (S8.out.fr); obtain ⟨b8f0, b8f1, b8f2, b8f3, b8f4, b8f5⟩ := frees6 (S8.out.fr); obtain ⟨z80, z81, z82, z83, z84, z85⟩ := cells6 (S8.out.zr); obtain ⟨z8f0, z8f1, z8f2, z8f3, z8f4, z8f5⟩ := frees6 (S8.out.zr); clear r8 o8))
  go_upto_region 14 with (first | (go_at_call 125; (with_reducible refine (SZ.out _ R8.out).mono ?_); rintro e w9 ⟨rfl, r9, o9⟩; have R9 := Lib.hid r9; have S9 := Lib.hid (S8.out.read o9 hpb hrb (.inl rfl)); obtain ⟨b90, b91, b92, b93, b94, b95⟩ := cells6 (S9.out.fr); obtain ⟨b9f0, b9f1, b9f2, b9f3, b9f4, b9f5⟩ := frees6 (S9.out.fr); obtain ⟨z90, z91, z92, z93, z94, z95⟩ := cells6 (S9.out.zr); obtain ⟨z9f0, z9f1, z9f2, z9f3, z9f4, z9f5⟩ := frees6 (S9.out.zr); clear r9 o9) | (go_at_call 93; (with_reducible refine (B2.out _ R9.out).mono ?_); rintro e w10 ⟨rfl, r10, o10⟩; have R10 := Lib.hid r10; have S10 := Lib.hid (S9.out.read o10 hpb hrb (.inl rfl)); obtain ⟨b100, b101, b102, b103, b104, b105⟩ := cells6 (S10.out.fr); obtain ⟨b10f0, b10f1, b10f2, b10f3, b10f4, b10f5⟩ := frees6 (S10.out.fr); obtain ⟨z100, z101, z102, z103, z104, z105⟩ := cells6 (S10.out.zr); obtain ⟨z10f0, z10f1, z10f2, z10f3, z10f4, z10f5⟩ := frees6 (S10.out.zr); clear r10 o10))
  rw [show ((st.toNat : Int) * 256 + fm.toNat) / 256 = st.toNat by omega, show (fm.toNat : Int) % 256 = fm.toNat by omega]
  have S11 : Hid (ST w ((w10.setCell ⟨pb, 1, none⟩ (.int .u8 st.toNat)).setCell ⟨pb, 2, none⟩ (.int .u8 fm.toNat)) b pb #[.string ⟨id.toArray⟩, .int .u8 st.toNat, .int .u8 fm.toNat, .int .u8 0, .string ⟨#[]⟩, .int .i64 at0] 47 rb #[.string ⟨#[]⟩, .int .u8 0, .int .u8 0, .int .u8 0, .string ⟨#[]⟩, .int .i64 0] 47) := Lib.hid ((S10.out.put 1 (.int .u8 st.toNat) hrp (.inr hpn)).put 2 (.int .u8 fm.toNat) hrp (.inr hpn))
  have R11 := Lib.hid ((R10.out.putO hbp (.int .u8 st.toNat) (j := 1)).putO hbp (.int .u8 fm.toNat) (j := 2))
  generalize ((w10.setCell ⟨pb, 1, none⟩ (.int .u8 st.toNat)).setCell ⟨pb, 2, none⟩ (.int .u8 fm.toNat)) = w11 at *
  obtain ⟨b110, b111, b112, b113, b114, b115⟩ := cells6 (S11.out.fr); obtain ⟨b11f0, b11f1, b11f2, b11f3, b11f4, b11f5⟩ := frees6 (S11.out.fr)
  clear S7 S9 S10 R7 R9 R10 b70 b7f0 b71 b7f1 b72 b7f2 b73 b7f3 b74 b7f4 b75 b7f5 b90 b9f0 b91 b9f1 b92 b9f2 b93 b9f3 b94 b9f4 b95 b9f5 b100 b10f0 b101 b10f1 b102 b10f2 b103 b10f3 b104 b10f4 b105 b10f5
  go_upto_region 16 with fail
  rw [show (c5 != 0) = true by simpa using hc5] at BD5
  go_wp2_with (first | (go_at_call 98; (with_reducible refine (AT2.out _ R11.out).mono ?_); rintro e wx ⟨rfl, rfl⟩; skip) | (go_at_call 54; (with_reducible refine (T5.out _ R11.out).mono ?_); rintro e w13 ⟨rfl, r13, o13⟩; have R13 := Lib.hid r13; have S13 := Lib.hid (S11.out.read o13 hpb hrb (.inl rfl)); obtain ⟨b130, b131, b132, b133, b134, b135⟩ := cells6 (S13.out.fr); obtain ⟨b13f0, b13f1, b13f2, b13f3, b13f4, b13f5⟩ := frees6 (S13.out.fr); obtain ⟨z130, z131, z132, z133, z134, z135⟩ := cells6 (S13.out.zr); obtain ⟨z13f0, z13f1, z13f2, z13f3, z13f4, z13f5⟩ := frees6 (S13.out.zr); clear r13 o13) | (go_at_call 56; (with_reducible refine (FA5.out _ R13.out).mono ?_); rintro e w14 ⟨rfl, hb14⟩; have S14 := Lib.hid (S13.out.below hb14); have R14 := Lib.hid (R13.out.below hb14); obtain ⟨b140, b141, b142, b143, b144, b145⟩ := cells6 (S14.out.fr); obtain ⟨b14f0, b14f1, b14f2, b14f3, b14f4, b14f5⟩ := frees6 (S14.out.fr); obtain ⟨z140, z141, z142, z143, z144, z145⟩ := cells6 (S14.out.zr); obtain ⟨z14f0, z14f1, z14f2, z14f3, z14f4, z14f5⟩ := frees6 (S14.out.zr); clear hb14) | (go_at_call 16; (with_reducible refine (BD5.out _).mono ?_); rintro e w15 ⟨rfl, hb15⟩; have S15 := Lib.hid (S14.out.below hb15); have R15 := Lib.hid (R14.out.below hb15); obtain ⟨b150, b151, b152, b153, b154, b155⟩ := cells6 (S15.out.fr); obtain ⟨b15f0, b15f1, b15f2, b15f3, b15f4, b15f5⟩ := frees6 (S15.out.fr); obtain ⟨z150, z151, z152, z153, z154, z155⟩ := cells6 (S15.out.zr); obtain ⟨z15f0, z15f1, z15f2, z15f3, z15f4, z15f5⟩ := frees6 (S15.out.zr); clear hb15))
  refine end_cell_tmp rfl rfl rfl (store6 S15.out.zr rfl) Try.underlying47 rfl (by kernel_rfl) ⟨rfl, ?_, ?_⟩
  · exact (((((R15.out.putO hbr _).putO hbr _).putO hbr _).putO hbr _).putO hbr _).putO hbr _
  · exact ((((((S15.out.on.other (Only.set _) (.inr hrn)).other (Only.set _) (.inr hrn)).other (Only.set _) (.inr hrn)).other (Only.set _) (.inr hrn)).other (Only.set _) (.inr hrn)).other (Only.set _) (.inr hrn))
set_option maxHeartbeats 4000000 in
set_option maxRecDepth 100000 in
theorem fparse_410 (b : Nat) (m m1 m2 m3 m4 m5 m6 mR : Rd) (q0 l0 at0 at2 c5 q5 c p : Int) (wn many : Nat) (s id data bo : List UInt8) (st fm fm' gr : UInt8) (fR : Fr) (ok : Bool) (w : World) (h : RdAt w b m)
    (LT : Hid (∀ w, Calls Try.prog 75 #[.int .i64 4] w fun e w' => e = .returned (.int .i64 4) ∧ w = w'))
    (FA : Hid (∀ w, RdAt w b m → Calls Try.prog 56 #[.pointer (some ⟨b, 0, none⟩)] w fun e w' => e = .returned (.agg #[.int .i64 0, .int .i64 q0]) ∧ Below w.heap.size w w'))
    (LE : Hid (∀ w, RdAt w b m → Calls Try.prog 99 #[.pointer (some ⟨b, 0, none⟩)] w fun e w' => e = .returned (.int .i64 l0) ∧ Below w.heap.size w w'))
    (PK : Hid (∀ w, RdAt w b m → Calls Try.prog 123 #[.pointer (some ⟨b, 0, none⟩), .int .i64 1] w fun e w' => e = .returned (.string ⟨s.toArray⟩) ∧ Below w.heap.size w w'))
    (hl : (l0 == 0) = false) (hs : (s == [0]) = false)
    (AT0 : Hid (∀ w, RdAt w b m → Calls Try.prog 98 #[.pointer (some ⟨b, 0, none⟩)] w fun e w' => e = .returned (.int .i64 at0) ∧ w = w'))
    (T1 : Hid (∀ w, RdAt w b m → Calls Try.prog 54 #[.pointer (some ⟨b, 0, none⟩), .int .i64 4] w fun e w' => e = .returned (.string ⟨id.toArray⟩) ∧ RdAt w' b m1 ∧ Only b w w'))
    (WR : Hid (∀ w, Calls Try.prog 124 #[.string ⟨id.toArray⟩] w fun e w' => e = .returned (.int .i64 wn) ∧ w = w'))
    (hbad : (wn : Int) < id.length) (hat : 0 ≤ at0 ∧ at0 ≤ 4000000000000) (hid : id.length ≤ 4)
    (FL : Hid (∀ w, RdAt w b m1 → Calls Try.prog 94 #[.pointer (some ⟨b, 0, none⟩), .int .i64 1, .int .i64 (at0 + wn)] w fun e w' => e = .returned (.tuple #[]) ∧ RdAt w' b m2 ∧ Only b w w'))
    (SZ : Hid (∀ w, RdAt w b m2 → Calls Try.prog 125 #[.int .i64 4, .pointer (some ⟨b, 0, none⟩)] w fun e w' => e = .returned (.int .i64 many) ∧ RdAt w' b m3 ∧ Only b w w'))
    (B2 : Hid (∀ w, RdAt w b m3 → Calls Try.prog 93 #[.pointer (some ⟨b, 0, none⟩), .int .i64 2] w fun e w' => e = .returned (.int .u64 ((st.toNat * 256 + fm.toNat : Nat) : Int)) ∧ RdAt w' b m4 ∧ Only b w w'))
    (EF : fm = fm')
    (AT2 : Hid (∀ w, RdAt w b m4 → Calls Try.prog 98 #[.pointer (some ⟨b, 0, none⟩)] w fun e w' => e = .returned (.int .i64 at2) ∧ w = w'))
    (T5 : Hid (∀ w, RdAt w b m4 → Calls Try.prog 54 #[.pointer (some ⟨b, 0, none⟩), .int .i64 many] w fun e w' => e = .returned (.string ⟨data.toArray⟩) ∧ RdAt w' b m5 ∧ Only b w w'))
    (FA5 : Hid (∀ w, RdAt w b m5 → Calls Try.prog 56 #[.pointer (some ⟨b, 0, none⟩)] w fun e w' => e = .returned (.agg #[.int .i64 c5, .int .i64 q5]) ∧ Below w.heap.size w w'))
    (hc5 : c5 ≠ 0) (ER : mR = m5) (EF2 : fR = zeroF) (EO : ok = false)
    : Calls Try.prog 89 #[.int .i64 4, .pointer (some ⟨b, 0, none⟩), .bool false] w (FParse b mR fR ok w) := by
  subst EF
  subst ER EF2 EO
  have hlt := h.lt
  obtain ⟨rb, hR⟩ : ∃ x, x = w.heap.size := ⟨_, rfl⟩
  have HR := Lib.hid hR
  have BD := Lib.hid (fun w => bad_any 0 q0 w)
  rw [show ((0 : Int) != 0) = false by rfl] at BD
  have BD5 := Lib.hid (fun w => bad_any c5 q5 w)
  have S0 : Hid (ST w (w.alloc (.cells #[.string ⟨#[]⟩, .int .u8 0, .int .u8 0, .int .u8 0, .string ⟨#[]⟩, .int .i64 0] 47)) b w.heap.size _ 47 w.heap.size _ 47) := Lib.hid ⟨at_a0 _ _ _, at_a0 _ _ _, Only.of_below ((Below.refl _ _).alloc (Nat.le_refl _) _)⟩
  have R0 := Lib.hid (h.alloc (.cells #[.string ⟨#[]⟩, .int .u8 0, .int .u8 0, .int .u8 0, .string ⟨#[]⟩, .int .i64 0] 47))
  clear h
  have hst := byte_le st
  have hfm := byte_le fm
  go_enter Try.func89, Try.ntmps89
  go_upto_region 4 with (first | (go_at_call 75; (with_reducible refine (LT.out _).mono ?_); rintro e wx ⟨rfl, rfl⟩; skip) | (go_at_call 56; (with_reducible refine (FA.out _ R0.out).mono ?_); rintro e w1 ⟨rfl, hb1⟩; have S1 := Lib.hid (S0.out.below hb1); have R1 := Lib.hid (R0.out.below hb1); obtain ⟨z10, z11, z12, z13, z14, z15⟩ := cells6 (S1.out.zr); obtain ⟨z1f0, z1f1, z1f2, z1f3, z1f4, z1f5⟩ := frees6 (S1.out.zr); clear hb1) | (go_at_call 16; (with_reducible refine (BD.out _).mono ?_); rintro e w2 ⟨rfl, hb2⟩; have S2 := Lib.hid (S1.out.below hb2); have R2 := Lib.hid (R1.out.below hb2); obtain ⟨z20, z21, z22, z23, z24, z25⟩ := cells6 (S2.out.zr); obtain ⟨z2f0, z2f1, z2f2, z2f3, z2f4, z2f5⟩ := frees6 (S2.out.zr); clear hb2) | (go_at_call 99; (with_reducible refine (LE.out _ R2.out).mono ?_); rintro e w3 ⟨rfl, hb3⟩; have S3 := Lib.hid (S2.out.below hb3); have R3 := Lib.hid (R2.out.below hb3); obtain ⟨z30, z31, z32, z33, z34, z35⟩ := cells6 (S3.out.zr); obtain ⟨z3f0, z3f1, z3f2, z3f3, z3f4, z3f5⟩ := frees6 (S3.out.zr); clear hb3) | (go_at_call 123; (with_reducible refine (PK.out _ R3.out).mono ?_); rintro e w4 ⟨rfl, hb4⟩; have S4 := Lib.hid (S3.out.below hb4); have R4 := Lib.hid (R3.out.below hb4); obtain ⟨z40, z41, z42, z43, z44, z45⟩ := cells6 (S4.out.zr); obtain ⟨z4f0, z4f1, z4f2, z4f3, z4f4, z4f5⟩ := frees6 (S4.out.zr); clear hb4))
  generalize hrb0 : w.heap.size = rb at *
  have hrn : w.heap.size ≤ rb := Nat.le_of_eq hrb0
  have hrb : rb ≠ b := by omega
  have hbr : b ≠ rb := by omega
  have HRB := Lib.hid hrb0
  clear hrb0 S0 S1 S2 S3 R0 R1 R2 R3 BD LT FA LE PK hl hs z10 z1f0 z11 z1f1 z12 z1f2 z13 z1f3 z14 z1f4 z15 z1f5 z20 z2f0 z21 z2f1 z22 z2f2 z23 z2f3 z24 z2f4 z25 z2f5 z30 z3f0 z31 z3f1 z32 z3f2 z33 z3f3 z34 z3f4 z35 z3f5 z40 z4f0 z41 z4f1 z42 z4f2 z43 z4f3 z44 z4f4 z45 z4f5
  go_upto_region 5 with (first | (go_at_call 98; (with_reducible refine (AT0.out _ R4.out).mono ?_); rintro e wx ⟨rfl, rfl⟩; skip))
  have S5 : Hid (ST w (w4.alloc (.cells #[.string ⟨#[]⟩, .int .u8 0, .int .u8 0, .int .u8 0, .string ⟨#[]⟩, .int .i64 at0] 47)) b w4.heap.size #[.string ⟨#[]⟩, .int .u8 0, .int .u8 0, .int .u8 0, .string ⟨#[]⟩, .int .i64 at0] 47 rb #[.string ⟨#[]⟩, .int .u8 0, .int .u8 0, .int .u8 0, .string ⟨#[]⟩, .int .i64 0] 47) := Lib.hid ⟨at_a0 _ _ _, block_below S4.out.zr ((Below.refl _ _).alloc (Nat.le_refl _) _), S4.out.on.trans (Only.of_below ((Below.refl _ _).alloc (Nat.le_refl _) _))⟩
  have R5 := Lib.hid (R4.out.alloc (.cells #[.string ⟨#[]⟩, .int .u8 0, .int .u8 0, .int .u8 0, .string ⟨#[]⟩, .int .i64 at0] 47))
  have h81 := (Array.getElem?_eq_some_iff.1 S4.out.zr).1
  have h82 := R4.out.lt
  have h83 := S4.out.on.size
  generalize w4.alloc (.cells #[.string ⟨#[]⟩, .int .u8 0, .int .u8 0, .int .u8 0, .string ⟨#[]⟩, .int .i64 at0] 47) = w5 at *
  generalize w4.heap.size = pb at *
  have hpb : pb ≠ b := by omega
  have hbp : b ≠ pb := by omega
  have hrp : rb ≠ pb := by omega
  have hpr : pb ≠ rb := by omega
  have hpn := h83
  clear h81 h82 h83 S4 R4 AT0
  obtain ⟨b50, b51, b52, b53, b54, b55⟩ := cells6 (S5.out.fr); obtain ⟨b5f0, b5f1, b5f2, b5f3, b5f4, b5f5⟩ := frees6 (S5.out.fr)
  go_upto_region 6 with (first | (go_at_call 54; (with_reducible refine (T1.out _ R5.out).mono ?_); rintro e w6 ⟨rfl, r6, o6⟩; have R6 := Lib.hid r6; have S6 := Lib.hid (S5.out.read o6 hpb hrb (.inl rfl)); obtain ⟨b60, b61, b62, b63, b64, b65⟩ := cells6 (S6.out.fr); obtain ⟨b6f0, b6f1, b6f2, b6f3, b6f4, b6f5⟩ := frees6 (S6.out.fr); obtain ⟨z60, z61, z62, z63, z64, z65⟩ := cells6 (S6.out.zr); obtain ⟨z6f0, z6f1, z6f2, z6f3, z6f4, z6f5⟩ := frees6 (S6.out.zr); clear r6 o6))
  have S7 : Hid (ST w (w6.setCell ⟨pb, 0, none⟩ (.string ⟨id.toArray⟩)) b pb #[.string ⟨id.toArray⟩, .int .u8 0, .int .u8 0, .int .u8 0, .string ⟨#[]⟩, .int .i64 at0] 47 rb #[.string ⟨#[]⟩, .int .u8 0, .int .u8 0, .int .u8 0, .string ⟨#[]⟩, .int .i64 0] 47) := Lib.hid (S6.out.put 0 (.string ⟨id.toArray⟩) hrp (.inr hpn))
  have R7 := Lib.hid (R6.out.putO hbp (.string ⟨id.toArray⟩) (j := 0))
  generalize (w6.setCell ⟨pb, 0, none⟩ (.string ⟨id.toArray⟩)) = w7 at *
  obtain ⟨b70, b71, b72, b73, b74, b75⟩ := cells6 (S7.out.fr); obtain ⟨b7f0, b7f1, b7f2, b7f3, b7f4, b7f5⟩ := frees6 (S7.out.fr)
  clear S5 S6 R5 R6 T1 b50 b5f0 b51 b5f1 b52 b5f2 b53 b5f3 b54 b5f4 b55 b5f5 b60 b6f0 b61 b6f1 b62 b6f2 b63 b6f3 b64 b6f4 b65 b6f5
  go_upto_region 9 with (first | (go_at_call 124; (with_reducible refine (WR.out _).mono ?_); rintro e wx ⟨rfl, rfl⟩; skip) | (go_at_call 94; (with_reducible refine (FL.out _ R7.out).mono ?_); rintro e w8 ⟨rfl, r8, o8⟩; have R8 := Lib.hid r8; have S8 := Lib.hid (S7.out.read o8 hpb hrb (.inl rfl)); obtain ⟨b80, b81, b82, b83, b84, b85⟩ := cells6 (S8.out.fr); obtain ⟨b8f0, b8f1, b8f2, b8f3, b8f4, b8f5⟩ := frees6 (S8.out.fr); obtain ⟨z80, z81, z82, z83, z84, z85⟩ := cells6 (S8.out.zr); obtain ⟨z8f0, z8f1, z8f2, z8f3, z8f4, z8f5⟩ := frees6 (S8.out.zr); clear r8 o8))
  go_upto_region 14 with (first | (go_at_call 125; (with_reducible refine (SZ.out _ R8.out).mono ?_); rintro e w9 ⟨rfl, r9, o9⟩; have R9 := Lib.hid r9; have S9 := Lib.hid (S8.out.read o9 hpb hrb (.inl rfl)); obtain ⟨b90, b91, b92, b93, b94, b95⟩ := cells6 (S9.out.fr); obtain ⟨b9f0, b9f1, b9f2, b9f3, b9f4, b9f5⟩ := frees6 (S9.out.fr); obtain ⟨z90, z91, z92, z93, z94, z95⟩ := cells6 (S9.out.zr); obtain ⟨z9f0, z9f1, z9f2, z9f3, z9f4, z9f5⟩ := frees6 (S9.out.zr); clear r9 o9) | (go_at_call 93; (with_reducible refine (B2.out _ R9.out).mono ?_); rintro e w10 ⟨rfl, r10, o10⟩; have R10 := Lib.hid r10; have S10 := Lib.hid (S9.out.read o10 hpb hrb (.inl rfl)); obtain ⟨b100, b101, b102, b103, b104, b105⟩ := cells6 (S10.out.fr); obtain ⟨b10f0, b10f1, b10f2, b10f3, b10f4, b10f5⟩ := frees6 (S10.out.fr); obtain ⟨z100, z101, z102, z103, z104, z105⟩ := cells6 (S10.out.zr); obtain ⟨z10f0, z10f1, z10f2, z10f3, z10f4, z10f5⟩ := frees6 (S10.out.zr); clear r10 o10))
  rw [show ((st.toNat : Int) * 256 + fm.toNat) / 256 = st.toNat by omega, show (fm.toNat : Int) % 256 = fm.toNat by omega]
  have S11 : Hid (ST w ((w10.setCell ⟨pb, 1, none⟩ (.int .u8 st.toNat)).setCell ⟨pb, 2, none⟩ (.int .u8 fm.toNat)) b pb #[.string ⟨id.toArray⟩, .int .u8 st.toNat, .int .u8 fm.toNat, .int .u8 0, .string ⟨#[]⟩, .int .i64 at0] 47 rb #[.string ⟨#[]⟩, .int .u8 0, .int .u8 0, .int .u8 0, .string ⟨#[]⟩, .int .i64 0] 47) := Lib.hid ((S10.out.put 1 (.int .u8 st.toNat) hrp (.inr hpn)).put 2 (.int .u8 fm.toNat) hrp (.inr hpn))
  have R11 := Lib.hid ((R10.out.putO hbp (.int .u8 st.toNat) (j := 1)).putO hbp (.int .u8 fm.toNat) (j := 2))
  generalize ((w10.setCell ⟨pb, 1, none⟩ (.int .u8 st.toNat)).setCell ⟨pb, 2, none⟩ (.int .u8 fm.toNat)) = w11 at *
  obtain ⟨b110, b111, b112, b113, b114, b115⟩ := cells6 (S11.out.fr); obtain ⟨b11f0, b11f1, b11f2, b11f3, b11f4, b11f5⟩ := frees6 (S11.out.fr)
  clear S7 S9 S10 R7 R9 R10 b70 b7f0 b71 b7f1 b72 b7f2 b73 b7f3 b74 b7f4 b75 b7f5 b90 b9f0 b91 b9f1 b92 b9f2 b93 b9f3 b94 b9f4 b95 b9f5 b100 b10f0 b101 b10f1 b102 b10f2 b103 b10f3 b104 b10f4 b105 b10f5
  go_upto_region 16 with fail
  rw [show (c5 != 0) = true by simpa using hc5] at BD5
  go_wp2_with (first | (go_at_call 98; (with_reducible refine (AT2.out _ R11.out).mono ?_); rintro e wx ⟨rfl, rfl⟩; skip) | (go_at_call 54; (with_reducible refine (T5.out _ R11.out).mono ?_); rintro e w13 ⟨rfl, r13, o13⟩; have R13 := Lib.hid r13; have S13 := Lib.hid (S11.out.read o13 hpb hrb (.inl rfl)); obtain ⟨b130, b131, b132, b133, b134, b135⟩ := cells6 (S13.out.fr); obtain ⟨b13f0, b13f1, b13f2, b13f3, b13f4, b13f5⟩ := frees6 (S13.out.fr); obtain ⟨z130, z131, z132, z133, z134, z135⟩ := cells6 (S13.out.zr); obtain ⟨z13f0, z13f1, z13f2, z13f3, z13f4, z13f5⟩ := frees6 (S13.out.zr); clear r13 o13) | (go_at_call 56; (with_reducible refine (FA5.out _ R13.out).mono ?_); rintro e w14 ⟨rfl, hb14⟩; have S14 := Lib.hid (S13.out.below hb14); have R14 := Lib.hid (R13.out.below hb14); obtain ⟨b140, b141, b142, b143, b144, b145⟩ := cells6 (S14.out.fr); obtain ⟨b14f0, b14f1, b14f2, b14f3, b14f4, b14f5⟩ := frees6 (S14.out.fr); obtain ⟨z140, z141, z142, z143, z144, z145⟩ := cells6 (S14.out.zr); obtain ⟨z14f0, z14f1, z14f2, z14f3, z14f4, z14f5⟩ := frees6 (S14.out.zr); clear hb14) | (go_at_call 16; (with_reducible refine (BD5.out _).mono ?_); rintro e w15 ⟨rfl, hb15⟩; have S15 := Lib.hid (S14.out.below hb15); have R15 := Lib.hid (R14.out.below hb15); obtain ⟨b150, b151, b152, b153, b154, b155⟩ := cells6 (S15.out.fr); obtain ⟨b15f0, b15f1, b15f2, b15f3, b15f4, b15f5⟩ := frees6 (S15.out.fr); obtain ⟨z150, z151, z152, z153, z154, z155⟩ := cells6 (S15.out.zr); obtain ⟨z15f0, z15f1, z15f2, z15f3, z15f4, z15f5⟩ := frees6 (S15.out.zr); clear hb15))
  refine end_cell_tmp rfl rfl rfl (store6 S15.out.zr rfl) Try.underlying47 rfl (by kernel_rfl) ⟨rfl, ?_, ?_⟩
  · exact (((((R15.out.putO hbr _).putO hbr _).putO hbr _).putO hbr _).putO hbr _).putO hbr _
  · exact ((((((S15.out.on.other (Only.set _) (.inr hrn)).other (Only.set _) (.inr hrn)).other (Only.set _) (.inr hrn)).other (Only.set _) (.inr hrn)).other (Only.set _) (.inr hrn)).other (Only.set _) (.inr hrn))
set_option maxHeartbeats 4000000 in
set_option maxRecDepth 100000 in
theorem fparse_411 (b : Nat) (m m1 m2 m3 m4 m5 m6 mR : Rd) (q0 l0 at0 at2 c5 q5 c p : Int) (wn many : Nat) (s id data bo : List UInt8) (st fm fm' gr : UInt8) (fR : Fr) (ok : Bool) (w : World) (h : RdAt w b m)
    (LT : Hid (∀ w, Calls Try.prog 75 #[.int .i64 4] w fun e w' => e = .returned (.int .i64 4) ∧ w = w'))
    (FA : Hid (∀ w, RdAt w b m → Calls Try.prog 56 #[.pointer (some ⟨b, 0, none⟩)] w fun e w' => e = .returned (.agg #[.int .i64 0, .int .i64 q0]) ∧ Below w.heap.size w w'))
    (LE : Hid (∀ w, RdAt w b m → Calls Try.prog 99 #[.pointer (some ⟨b, 0, none⟩)] w fun e w' => e = .returned (.int .i64 l0) ∧ Below w.heap.size w w'))
    (PK : Hid (∀ w, RdAt w b m → Calls Try.prog 123 #[.pointer (some ⟨b, 0, none⟩), .int .i64 1] w fun e w' => e = .returned (.string ⟨s.toArray⟩) ∧ Below w.heap.size w w'))
    (hl : (l0 == 0) = false) (hs : (s == [0]) = false)
    (AT0 : Hid (∀ w, RdAt w b m → Calls Try.prog 98 #[.pointer (some ⟨b, 0, none⟩)] w fun e w' => e = .returned (.int .i64 at0) ∧ w = w'))
    (T1 : Hid (∀ w, RdAt w b m → Calls Try.prog 54 #[.pointer (some ⟨b, 0, none⟩), .int .i64 4] w fun e w' => e = .returned (.string ⟨id.toArray⟩) ∧ RdAt w' b m1 ∧ Only b w w'))
    (WR : Hid (∀ w, Calls Try.prog 124 #[.string ⟨id.toArray⟩] w fun e w' => e = .returned (.int .i64 wn) ∧ w = w'))
    (hbad : (wn : Int) < id.length) (hat : 0 ≤ at0 ∧ at0 ≤ 4000000000000) (hid : id.length ≤ 4)
    (FL : Hid (∀ w, RdAt w b m1 → Calls Try.prog 94 #[.pointer (some ⟨b, 0, none⟩), .int .i64 1, .int .i64 (at0 + wn)] w fun e w' => e = .returned (.tuple #[]) ∧ RdAt w' b m2 ∧ Only b w w'))
    (SZ : Hid (∀ w, RdAt w b m2 → Calls Try.prog 125 #[.int .i64 4, .pointer (some ⟨b, 0, none⟩)] w fun e w' => e = .returned (.int .i64 many) ∧ RdAt w' b m3 ∧ Only b w w'))
    (B2 : Hid (∀ w, RdAt w b m3 → Calls Try.prog 93 #[.pointer (some ⟨b, 0, none⟩), .int .i64 2] w fun e w' => e = .returned (.int .u64 ((st.toNat * 256 + fm.toNat : Nat) : Int)) ∧ RdAt w' b m4 ∧ Only b w w'))
    (EF : bits .or .u8 (fm.toNat : Int) 2 = (fm'.toNat : Int))
    (AT2 : Hid (∀ w, RdAt w b m4 → Calls Try.prog 98 #[.pointer (some ⟨b, 0, none⟩)] w fun e w' => e = .returned (.int .i64 at2) ∧ w = w'))
    (T5 : Hid (∀ w, RdAt w b m4 → Calls Try.prog 54 #[.pointer (some ⟨b, 0, none⟩), .int .i64 many] w fun e w' => e = .returned (.string ⟨data.toArray⟩) ∧ RdAt w' b m5 ∧ Only b w w'))
    (FA5 : Hid (∀ w, RdAt w b m5 → Calls Try.prog 56 #[.pointer (some ⟨b, 0, none⟩)] w fun e w' => e = .returned (.agg #[.int .i64 c5, .int .i64 q5]) ∧ Below w.heap.size w w'))
    (hc5 : c5 ≠ 0) (ER : mR = m5) (EF2 : fR = zeroF) (EO : ok = false)
    : Calls Try.prog 89 #[.int .i64 4, .pointer (some ⟨b, 0, none⟩), .bool true] w (FParse b mR fR ok w) := by
  subst ER EF2 EO
  have hlt := h.lt
  obtain ⟨rb, hR⟩ : ∃ x, x = w.heap.size := ⟨_, rfl⟩
  have HR := Lib.hid hR
  have BD := Lib.hid (fun w => bad_any 0 q0 w)
  rw [show ((0 : Int) != 0) = false by rfl] at BD
  have BD5 := Lib.hid (fun w => bad_any c5 q5 w)
  have S0 : Hid (ST w (w.alloc (.cells #[.string ⟨#[]⟩, .int .u8 0, .int .u8 0, .int .u8 0, .string ⟨#[]⟩, .int .i64 0] 47)) b w.heap.size _ 47 w.heap.size _ 47) := Lib.hid ⟨at_a0 _ _ _, at_a0 _ _ _, Only.of_below ((Below.refl _ _).alloc (Nat.le_refl _) _)⟩
  have R0 := Lib.hid (h.alloc (.cells #[.string ⟨#[]⟩, .int .u8 0, .int .u8 0, .int .u8 0, .string ⟨#[]⟩, .int .i64 0] 47))
  clear h
  have hst := byte_le st
  have hfm := byte_le fm
  go_enter Try.func89, Try.ntmps89
  go_upto_region 4 with (first | (go_at_call 75; (with_reducible refine (LT.out _).mono ?_); rintro e wx ⟨rfl, rfl⟩; skip) | (go_at_call 56; (with_reducible refine (FA.out _ R0.out).mono ?_); rintro e w1 ⟨rfl, hb1⟩; have S1 := Lib.hid (S0.out.below hb1); have R1 := Lib.hid (R0.out.below hb1); obtain ⟨z10, z11, z12, z13, z14, z15⟩ := cells6 (S1.out.zr); obtain ⟨z1f0, z1f1, z1f2, z1f3, z1f4, z1f5⟩ := frees6 (S1.out.zr); clear hb1) | (go_at_call 16; (with_reducible refine (BD.out _).mono ?_); rintro e w2 ⟨rfl, hb2⟩; have S2 := Lib.hid (S1.out.below hb2); have R2 := Lib.hid (R1.out.below hb2); obtain ⟨z20, z21, z22, z23, z24, z25⟩ := cells6 (S2.out.zr); obtain ⟨z2f0, z2f1, z2f2, z2f3, z2f4, z2f5⟩ := frees6 (S2.out.zr); clear hb2) | (go_at_call 99; (with_reducible refine (LE.out _ R2.out).mono ?_); rintro e w3 ⟨rfl, hb3⟩; have S3 := Lib.hid (S2.out.below hb3); have R3 := Lib.hid (R2.out.below hb3); obtain ⟨z30, z31, z32, z33, z34, z35⟩ := cells6 (S3.out.zr); obtain ⟨z3f0, z3f1, z3f2, z3f3, z3f4, z3f5⟩ := frees6 (S3.out.zr); clear hb3) | (go_at_call 123; (with_reducible refine (PK.out _ R3.out).mono ?_); rintro e w4 ⟨rfl, hb4⟩; have S4 := Lib.hid (S3.out.below hb4); have R4 := Lib.hid (R3.out.below hb4); obtain ⟨z40, z41, z42, z43, z44, z45⟩ := cells6 (S4.out.zr); obtain ⟨z4f0, z4f1, z4f2, z4f3, z4f4, z4f5⟩ := frees6 (S4.out.zr); clear hb4))
  generalize hrb0 : w.heap.size = rb at *
  have hrn : w.heap.size ≤ rb := Nat.le_of_eq hrb0
  have hrb : rb ≠ b := by omega
  have hbr : b ≠ rb := by omega
  have HRB := Lib.hid hrb0
  clear hrb0 S0 S1 S2 S3 R0 R1 R2 R3 BD LT FA LE PK hl hs z10 z1f0 z11 z1f1 z12 z1f2 z13 z1f3 z14 z1f4 z15 z1f5 z20 z2f0 z21 z2f1 z22 z2f2 z23 z2f3 z24 z2f4 z25 z2f5 z30 z3f0 z31 z3f1 z32 z3f2 z33 z3f3 z34 z3f4 z35 z3f5 z40 z4f0 z41 z4f1 z42 z4f2 z43 z4f3 z44 z4f4 z45 z4f5
  go_upto_region 5 with (first | (go_at_call 98; (with_reducible refine (AT0.out _ R4.out).mono ?_); rintro e wx ⟨rfl, rfl⟩; skip))
  have S5 : Hid (ST w (w4.alloc (.cells #[.string ⟨#[]⟩, .int .u8 0, .int .u8 0, .int .u8 0, .string ⟨#[]⟩, .int .i64 at0] 47)) b w4.heap.size #[.string ⟨#[]⟩, .int .u8 0, .int .u8 0, .int .u8 0, .string ⟨#[]⟩, .int .i64 at0] 47 rb #[.string ⟨#[]⟩, .int .u8 0, .int .u8 0, .int .u8 0, .string ⟨#[]⟩, .int .i64 0] 47) := Lib.hid ⟨at_a0 _ _ _, block_below S4.out.zr ((Below.refl _ _).alloc (Nat.le_refl _) _), S4.out.on.trans (Only.of_below ((Below.refl _ _).alloc (Nat.le_refl _) _))⟩
  have R5 := Lib.hid (R4.out.alloc (.cells #[.string ⟨#[]⟩, .int .u8 0, .int .u8 0, .int .u8 0, .string ⟨#[]⟩, .int .i64 at0] 47))
  have h81 := (Array.getElem?_eq_some_iff.1 S4.out.zr).1
  have h82 := R4.out.lt
  have h83 := S4.out.on.size
  generalize w4.alloc (.cells #[.string ⟨#[]⟩, .int .u8 0, .int .u8 0, .int .u8 0, .string ⟨#[]⟩, .int .i64 at0] 47) = w5 at *
  generalize w4.heap.size = pb at *
  have hpb : pb ≠ b := by omega
  have hbp : b ≠ pb := by omega
  have hrp : rb ≠ pb := by omega
  have hpr : pb ≠ rb := by omega
  have hpn := h83
  clear h81 h82 h83 S4 R4 AT0
  obtain ⟨b50, b51, b52, b53, b54, b55⟩ := cells6 (S5.out.fr); obtain ⟨b5f0, b5f1, b5f2, b5f3, b5f4, b5f5⟩ := frees6 (S5.out.fr)
  go_upto_region 6 with (first | (go_at_call 54; (with_reducible refine (T1.out _ R5.out).mono ?_); rintro e w6 ⟨rfl, r6, o6⟩; have R6 := Lib.hid r6; have S6 := Lib.hid (S5.out.read o6 hpb hrb (.inl rfl)); obtain ⟨b60, b61, b62, b63, b64, b65⟩ := cells6 (S6.out.fr); obtain ⟨b6f0, b6f1, b6f2, b6f3, b6f4, b6f5⟩ := frees6 (S6.out.fr); obtain ⟨z60, z61, z62, z63, z64, z65⟩ := cells6 (S6.out.zr); obtain ⟨z6f0, z6f1, z6f2, z6f3, z6f4, z6f5⟩ := frees6 (S6.out.zr); clear r6 o6))
  have S7 : Hid (ST w (w6.setCell ⟨pb, 0, none⟩ (.string ⟨id.toArray⟩)) b pb #[.string ⟨id.toArray⟩, .int .u8 0, .int .u8 0, .int .u8 0, .string ⟨#[]⟩, .int .i64 at0] 47 rb #[.string ⟨#[]⟩, .int .u8 0, .int .u8 0, .int .u8 0, .string ⟨#[]⟩, .int .i64 0] 47) := Lib.hid (S6.out.put 0 (.string ⟨id.toArray⟩) hrp (.inr hpn))
  have R7 := Lib.hid (R6.out.putO hbp (.string ⟨id.toArray⟩) (j := 0))
  generalize (w6.setCell ⟨pb, 0, none⟩ (.string ⟨id.toArray⟩)) = w7 at *
  obtain ⟨b70, b71, b72, b73, b74, b75⟩ := cells6 (S7.out.fr); obtain ⟨b7f0, b7f1, b7f2, b7f3, b7f4, b7f5⟩ := frees6 (S7.out.fr)
  clear S5 S6 R5 R6 T1 b50 b5f0 b51 b5f1 b52 b5f2 b53 b5f3 b54 b5f4 b55 b5f5 b60 b6f0 b61 b6f1 b62 b6f2 b63 b6f3 b64 b6f4 b65 b6f5
  go_upto_region 9 with (first | (go_at_call 124; (with_reducible refine (WR.out _).mono ?_); rintro e wx ⟨rfl, rfl⟩; skip) | (go_at_call 94; (with_reducible refine (FL.out _ R7.out).mono ?_); rintro e w8 ⟨rfl, r8, o8⟩; have R8 := Lib.hid r8; have S8 := Lib.hid (S7.out.read o8 hpb hrb (.inl rfl)); obtain ⟨b80, b81, b82, b83, b84, b85⟩ := cells6 (S8.out.fr); obtain ⟨b8f0, b8f1, b8f2, b8f3, b8f4, b8f5⟩ := frees6 (S8.out.fr); obtain ⟨z80, z81, z82, z83, z84, z85⟩ := cells6 (S8.out.zr); obtain ⟨z8f0, z8f1, z8f2, z8f3, z8f4, z8f5⟩ := frees6 (S8.out.zr); clear r8 o8))
  go_upto_region 14 with (first | (go_at_call 125; (with_reducible refine (SZ.out _ R8.out).mono ?_); rintro e w9 ⟨rfl, r9, o9⟩; have R9 := Lib.hid r9; have S9 := Lib.hid (S8.out.read o9 hpb hrb (.inl rfl)); obtain ⟨b90, b91, b92, b93, b94, b95⟩ := cells6 (S9.out.fr); obtain ⟨b9f0, b9f1, b9f2, b9f3, b9f4, b9f5⟩ := frees6 (S9.out.fr); obtain ⟨z90, z91, z92, z93, z94, z95⟩ := cells6 (S9.out.zr); obtain ⟨z9f0, z9f1, z9f2, z9f3, z9f4, z9f5⟩ := frees6 (S9.out.zr); clear r9 o9) | (go_at_call 93; (with_reducible refine (B2.out _ R9.out).mono ?_); rintro e w10 ⟨rfl, r10, o10⟩; have R10 := Lib.hid r10; have S10 := Lib.hid (S9.out.read o10 hpb hrb (.inl rfl)); obtain ⟨b100, b101, b102, b103, b104, b105⟩ := cells6 (S10.out.fr); obtain ⟨b10f0, b10f1, b10f2, b10f3, b10f4, b10f5⟩ := frees6 (S10.out.fr); obtain ⟨z100, z101, z102, z103, z104, z105⟩ := cells6 (S10.out.zr); obtain ⟨z10f0, z10f1, z10f2, z10f3, z10f4, z10f5⟩ := frees6 (S10.out.zr); clear r10 o10))
  rw [show ((st.toNat : Int) * 256 + fm.toNat) / 256 = st.toNat by omega, show (fm.toNat : Int) % 256 = fm.toNat by omega]
  have S11 : Hid (ST w ((w10.setCell ⟨pb, 1, none⟩ (.int .u8 st.toNat)).setCell ⟨pb, 2, none⟩ (.int .u8 fm.toNat)) b pb #[.string ⟨id.toArray⟩, .int .u8 st.toNat, .int .u8 fm.toNat, .int .u8 0, .string ⟨#[]⟩, .int .i64 at0] 47 rb #[.string ⟨#[]⟩, .int .u8 0, .int .u8 0, .int .u8 0, .string ⟨#[]⟩, .int .i64 0] 47) := Lib.hid ((S10.out.put 1 (.int .u8 st.toNat) hrp (.inr hpn)).put 2 (.int .u8 fm.toNat) hrp (.inr hpn))
  have R11 := Lib.hid ((R10.out.putO hbp (.int .u8 st.toNat) (j := 1)).putO hbp (.int .u8 fm.toNat) (j := 2))
  generalize ((w10.setCell ⟨pb, 1, none⟩ (.int .u8 st.toNat)).setCell ⟨pb, 2, none⟩ (.int .u8 fm.toNat)) = w11 at *
  obtain ⟨b110, b111, b112, b113, b114, b115⟩ := cells6 (S11.out.fr); obtain ⟨b11f0, b11f1, b11f2, b11f3, b11f4, b11f5⟩ := frees6 (S11.out.fr)
  clear S7 S9 S10 R7 R9 R10 b70 b7f0 b71 b7f1 b72 b7f2 b73 b7f3 b74 b7f4 b75 b7f5 b90 b9f0 b91 b9f1 b92 b9f2 b93 b9f3 b94 b9f4 b95 b9f5 b100 b10f0 b101 b10f1 b102 b10f2 b103 b10f3 b104 b10f4 b105 b10f5
  go_upto_region 16 with fail
  have S12 : Hid (ST w (w11.setCell ⟨pb, 2, none⟩ (.int .u8 fm'.toNat)) b pb #[.string ⟨id.toArray⟩, .int .u8 st.toNat, .int .u8 fm'.toNat, .int .u8 0, .string ⟨#[]⟩, .int .i64 at0] 47 rb #[.string ⟨#[]⟩, .int .u8 0, .int .u8 0, .int .u8 0, .string ⟨#[]⟩, .int .i64 0] 47) := Lib.hid (S11.out.put 2 (.int .u8 fm'.toNat) hrp (.inr hpn))
  have R12 := Lib.hid (R11.out.putO hbp (.int .u8 fm'.toNat) (j := 2))
  generalize (w11.setCell ⟨pb, 2, none⟩ (.int .u8 fm'.toNat)) = w12 at *
  obtain ⟨b120, b121, b122, b123, b124, b125⟩ := cells6 (S12.out.fr); obtain ⟨b12f0, b12f1, b12f2, b12f3, b12f4, b12f5⟩ := frees6 (S12.out.fr)
  rw [show (c5 != 0) = true by simpa using hc5] at BD5
  go_wp2_with (first | (go_at_call 98; (with_reducible refine (AT2.out _ R12.out).mono ?_); rintro e wx ⟨rfl, rfl⟩; skip) | (go_at_call 54; (with_reducible refine (T5.out _ R12.out).mono ?_); rintro e w13 ⟨rfl, r13, o13⟩; have R13 := Lib.hid r13; have S13 := Lib.hid (S12.out.read o13 hpb hrb (.inl rfl)); obtain ⟨b130, b131, b132, b133, b134, b135⟩ := cells6 (S13.out.fr); obtain ⟨b13f0, b13f1, b13f2, b13f3, b13f4, b13f5⟩ := frees6 (S13.out.fr); obtain ⟨z130, z131, z132, z133, z134, z135⟩ := cells6 (S13.out.zr); obtain ⟨z13f0, z13f1, z13f2, z13f3, z13f4, z13f5⟩ := frees6 (S13.out.zr); clear r13 o13) | (go_at_call 56; (with_reducible refine (FA5.out _ R13.out).mono ?_); rintro e w14 ⟨rfl, hb14⟩; have S14 := Lib.hid (S13.out.below hb14); have R14 := Lib.hid (R13.out.below hb14); obtain ⟨b140, b141, b142, b143, b144, b145⟩ := cells6 (S14.out.fr); obtain ⟨b14f0, b14f1, b14f2, b14f3, b14f4, b14f5⟩ := frees6 (S14.out.fr); obtain ⟨z140, z141, z142, z143, z144, z145⟩ := cells6 (S14.out.zr); obtain ⟨z14f0, z14f1, z14f2, z14f3, z14f4, z14f5⟩ := frees6 (S14.out.zr); clear hb14) | (go_at_call 16; (with_reducible refine (BD5.out _).mono ?_); rintro e w15 ⟨rfl, hb15⟩; have S15 := Lib.hid (S14.out.below hb15); have R15 := Lib.hid (R14.out.below hb15); obtain ⟨b150, b151, b152, b153, b154, b155⟩ := cells6 (S15.out.fr); obtain ⟨b15f0, b15f1, b15f2, b15f3, b15f4, b15f5⟩ := frees6 (S15.out.fr); obtain ⟨z150, z151, z152, z153, z154, z155⟩ := cells6 (S15.out.zr); obtain ⟨z15f0, z15f1, z15f2, z15f3, z15f4, z15f5⟩ := frees6 (S15.out.zr); clear hb15))
  refine end_cell_tmp rfl rfl rfl (store6 S15.out.zr rfl) Try.underlying47 rfl (by kernel_rfl) ⟨rfl, ?_, ?_⟩
  · exact (((((R15.out.putO hbr _).putO hbr _).putO hbr _).putO hbr _).putO hbr _).putO hbr _
  · exact ((((((S15.out.on.other (Only.set _) (.inr hrn)).other (Only.set _) (.inr hrn)).other (Only.set _) (.inr hrn)).other (Only.set _) (.inr hrn)).other (Only.set _) (.inr hrn)).other (Only.set _) (.inr hrn))
end Go.Proofs.Ytmnmonmbdgedbaa
