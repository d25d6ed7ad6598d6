/- Layer 13 (frame): frame.fill, walked (printed by fr2.py). -/
import Derived.Test.YtmnmonmbdgedbaaFr1
namespace Go.Proofs.Ytmnmonmbdgedbaa
open Go.RowKit
set_option linter.unusedVariables false

/-- block x has the cells X, block z has the cells Z, and of the old blocks none but o has turned -/
structure ST (w0 w : World) (o x : Nat) (X : Array Value) (T : TypeId) (z : Nat) (Z : Array Value) (U : TypeId) : Prop where
  fr : w.heap[x]? = some (.cells X T (0, 0))
  zr : w.heap[z]? = some (.cells Z U (0, 0))
  on : Only o w0 w
section
variable {w0 w w1 : World} {o x z : Nat} {X Z : Array Value} {T U : TypeId}
theorem ST.below (h : ST w0 w o x X T z Z U) (k : Below w.heap.size w w1) : ST w0 w1 o x X T z Z U := ⟨block_below h.fr k, block_below h.zr k, h.on.trans (Only.of_below k)⟩
theorem Only.other {r : Nat} (h : Only o w0 w) (k : Only r w w1) (hr : r = o ∨ w0.heap.size ≤ r) : Only o w0 w1 := by
  rcases hr with rfl | hr
  · exact h.trans k
  · exact ⟨k.os.trans h.os, k.tape.trans h.tape, k.output.trans h.output, Nat.le_trans h.size k.size, fun j hj hne => (k.block j (Nat.lt_of_lt_of_le hj h.size) (by intro e; have := Option.some.inj e; omega)).trans (h.block j hj hne)⟩
theorem ST.read {r : Nat} (h : ST w0 w o x X T z Z U) (k : Only r w w1) (hx : x ≠ r) (hz : z ≠ r) (hr : r = o ∨ w0.heap.size ≤ r) : ST w0 w1 o x X T z Z U :=
  ⟨block_only h.fr k hx, block_only h.zr k hz, h.on.other k hr⟩
theorem ST.alloc (h : ST w0 w o x X T z Z U) (a : Obj) : ST w0 (w.alloc a) o x X T z Z U := h.below ((Below.refl _ _).alloc (Nat.le_refl _) a)
theorem ST.put (h : ST w0 w o x X T z Z U) (j : Nat) (v : Value) (hz : z ≠ x) (hx : x = o ∨ w0.heap.size ≤ x) : ST w0 (w.setCell ⟨x, j, none⟩ v) o x (X.setIfInBounds j v) T z Z U :=
  ⟨setCell_at h.fr, (heap_set_other v hz).trans h.zr, h.on.other (Only.set v) hx⟩
theorem ST.putNew {c : Nat} (h : ST w0 w o x X T z Z U) (j : Nat) (v : Value) (hx : x ≠ c) (hz : z ≠ c) (hc : w0.heap.size ≤ c) : ST w0 (w.setCell ⟨c, j, none⟩ v) o x X T z Z U :=
  ⟨(heap_set_other v hx).trans h.fr, (heap_set_other v hz).trans h.zr, h.on.other (Only.set v) (.inr hc)⟩
theorem InAt.putO {T : TypeId} {w : World} {b c j : Nat} {m : Rd} (h : InAt T w b m) (hne : b ≠ c) (v : Value) : InAt T (w.setCell ⟨c, j, none⟩ v) b m := (heap_set_other v hne).trans h
end

/-- what is in a frame's data: the reader's end, the group, the body, the measure's place, the measure -/
structure Fd where
  m : Rd
  gr : UInt8
  bo : List UInt8
  pl : Int
  ms : Int
def fillM (gp ms sp : Bool) (m0 : Rd) : Fd :=
  let a1 := if gp then m0.take ((1 : Nat) : Int) else (m0, [])
  let a2 := if ms then a1.1.safe else (a1.1, 0)
  let a3 := a2.1.rest
  ⟨a2.1, (if gp then UInt8.ofNat (numL a1.2) else 0), if sp then sndDrop false a3.2 else a3.2, a1.1.bs + a1.1.nx, a2.2⟩
/-- the fault -/
def fillC (v : Int) (fm : UInt8) (data : List UInt8) (at0 : Int) : Int × Int :=
  if locked v fm = true then (0, 0) else
    let d := fillM (grouped v fm) (measured v fm) (spreadB v fm) (Rd.new data at0)
    if d.m.cd ≠ 0 then (d.m.cd, d.m.pl) else if measured v fm = true ∧ d.ms ≠ d.bo.length then (1, d.pl) else (0, 0)
/-- the group and the body -/
def fillB (v : Int) (fm : UInt8) (data : List UInt8) (at0 : Int) : UInt8 × List UInt8 :=
  if locked v fm = true then (0, data) else
    let d := fillM (grouped v fm) (measured v fm) (spreadB v fm) (Rd.new data at0)
    (d.gr, d.bo)
def frC (id : List UInt8) (st fm gr : UInt8) (bo : List UInt8) (pl : Int) : Array Value := #[.string ⟨id.toArray⟩, .int .u8 st.toNat, .int .u8 fm.toNat, .int .u8 gr.toNat, .string ⟨bo.toArray⟩, .int .i64 pl]
/-- a call of fill answers c p, and leaves the frame with a group and a body, if all is well -/
def FillSays (fb : Nat) (id : List UInt8) (st fm gr : UInt8) (bo : List UInt8) (pl : Int) (c p : Int) (w : World) (e : Ending) (w' : World) : Prop :=
  e = .returned (.agg #[.int .i64 c, .int .i64 p]) ∧ Only fb w w' ∧ (c = 0 → w'.heap[fb]? = some (.cells (frC id st fm gr bo pl) 47 (0, 0)))
theorem FillSays.mk {fb : Nat} {id : List UInt8} {st fm gr : UInt8} {bo : List UInt8} {pl c p : Int} {w w' : World} {e : Ending} (h1 : e = .returned (.agg #[.int .i64 c, .int .i64 p])) (h2 : Only fb w w') (h3 : w'.heap[fb]? = some (.cells (frC id st fm gr bo pl) 47 (0, 0))) :
    FillSays fb id st fm gr bo pl c p w e w' := ⟨h1, h2, fun _ => h3⟩

set_option maxHeartbeats 1000000 in
set_option maxRecDepth 100000 in
theorem fill_locked (v : Int) (fb : Nat) (id : List UInt8) (st fm : UInt8) (data : List UInt8) (pl at0 : Int) (w : World) (hf : w.heap[fb]? = some (.cells (frC id st fm 0 [] pl) 47 (0, 0)))
    (hk : locked v fm = true) : Calls Try.prog 126 #[.pointer (some ⟨fb, 0, none⟩), .int .i64 v, .string ⟨data.toArray⟩, .int .i64 at0] w (FillSays fb id st fm 0 data pl 0 0 w) := by
  have LK := Lib.hid (fun w => locked_any v id st fm w)
  rw [hk] at LK
  unfold frC hdV at *
  clear hk
  have hlt : fb < w.heap.size := (Array.getElem?_eq_some_iff.1 hf).1
  have S0 : Hid (ST w (w.alloc (.cells #[.int .i64 0, .int .i64 0] 31)) fb fb _ 47 w.heap.size _ 31) := Lib.hid ⟨block_below hf ((Below.refl _ _).alloc (Nat.le_refl _) _), at_a0 _ _ _, Only.of_below ((Below.refl _ _).alloc (Nat.le_refl _) _)⟩
  obtain ⟨a0, a1, a2, a3, a4, a5⟩ := cells6 (hf)
  go_enter Try.func126, Try.ntmps126
  go_wp2_with (go_at_call 66; (with_reducible refine (LK.out _).mono ?_); rintro e w1 ⟨rfl, hb1⟩; have S1 := Lib.hid (S0.out.below hb1); obtain ⟨b0, b1, b2, b3, b4, b5⟩ := cells6 (S1.out.fr); obtain ⟨bf0, bf1, bf2, bf3, bf4, bf5⟩ := frees6 (S1.out.fr); obtain ⟨z0, z1⟩ := cells2 (S1.out.zr); obtain ⟨zf0, zf1⟩ := frees2 (S1.out.zr); clear hb1 S0)
  have hz : w.heap.size ≠ fb := by omega
  refine end_cell rfl rfl rfl (store2 ((heap_set_other _ hz).trans S1.out.zr) rfl) Try.underlying31 rfl (by kernel_rfl) (FillSays.mk rfl ?_ ?_)
  · exact ((S1.out.on.trans (Only.set _)).other (Only.set _) (.inr (Nat.le_refl _))).other (Only.set _) (.inr (Nat.le_refl _))
  · exact (heap_set_other _ (fun e => hz e.symm)).trans ((heap_set_other _ (fun e => hz e.symm)).trans (setCell_at S1.out.fr))
set_option maxHeartbeats 4000000 in
set_option maxRecDepth 100000 in
theorem fill_111 (v : Int) (fb : Nat) (id : List UInt8) (st fm gr : UInt8) (data bo0 bo : List UInt8) (pl at0 c2 p2 p1 me c p : Int) (m0 m1 m2 m3 : Rd) (w : World) (hf : w.heap[fb]? = some (.cells (frC id st fm 0 [] pl) 47 (0, 0)))
    (LK : Hid (∀ w, Calls Try.prog 66 #[hdV id st fm, .int .i64 v] w fun e w' => e = .returned (.bool false) ∧ Below w.heap.size w w'))
    (GR : Hid (∀ w, Calls Try.prog 108 #[hdV id st fm, .int .i64 v] w fun e w' => e = .returned (.bool true) ∧ Below w.heap.size w w'))
    (ME : Hid (∀ w, Calls Try.prog 122 #[hdV id st fm, .int .i64 v] w fun e w' => e = .returned (.bool true) ∧ Below w.heap.size w w'))
    (SP : Hid (∀ w, Calls Try.prog 24 #[hdV id st fm, .int .i64 v] w fun e w' => e = .returned (.bool true) ∧ Below w.heap.size w w'))
    (IN : Hid (∀ w, Calls Try.prog 58 #[.string ⟨data.toArray⟩, .int .i64 at0] w fun e w' => e = .returned (.pointer (some ⟨w.heap.size, 0, none⟩)) ∧ RdAt w' w.heap.size m0 ∧ Below w.heap.size w w'))
    (C1 : Hid (∀ ib w, RdAt w ib m0 → Calls Try.prog 93 #[.pointer (some ⟨ib, 0, none⟩), .int .i64 1] w fun e w' => e = .returned (.int .u64 gr.toNat) ∧ RdAt w' ib m1 ∧ Only ib w w'))
    (AT : Hid (∀ ib w, RdAt w ib m1 → Calls Try.prog 98 #[.pointer (some ⟨ib, 0, none⟩)] w fun e w' => e = .returned (.int .i64 p1) ∧ w = w'))
    (SF : Hid (∀ ib w, RdAt w ib m1 → Calls Try.prog 55 #[.pointer (some ⟨ib, 0, none⟩)] w fun e w' => e = .returned (.int .i64 me) ∧ RdAt w' ib m2 ∧ Only ib w w'))
    (FA : Hid (∀ ib w, RdAt w ib m2 → Calls Try.prog 56 #[.pointer (some ⟨ib, 0, none⟩)] w fun e w' => e = .returned (.agg #[.int .i64 c2, .int .i64 p2]) ∧ Below w.heap.size w w'))
    (RE : Hid (∀ ib w, RdAt w ib m2 → Calls Try.prog 62 #[.pointer (some ⟨ib, 0, none⟩)] w fun e w' => e = .returned (.string ⟨bo0.toArray⟩) ∧ RdAt w' ib m3 ∧ Only ib w w'))
    (DR : Hid (∀ w, Calls Try.prog 45 #[.string ⟨bo0.toArray⟩] w fun e w' => e = .returned (.string ⟨bo.toArray⟩) ∧ Below w.heap.size w w'))
    (HC : (c2 ≠ 0 ∧ c = c2 ∧ p = p2) ∨ (c2 = 0 ∧ ((me ≠ bo.length ∧ c = 1 ∧ p = p1) ∨ (me = bo.length ∧ c = 0 ∧ p = 0))))
    : Calls Try.prog 126 #[.pointer (some ⟨fb, 0, none⟩), .int .i64 v, .string ⟨data.toArray⟩, .int .i64 at0] w (FillSays fb id st fm gr bo pl c p w) := by
  unfold frC hdV at *
  have hlt : fb < w.heap.size := (Array.getElem?_eq_some_iff.1 hf).1
  have S0 : Hid (ST w (w.alloc (.cells #[.int .i64 0, .int .i64 0] 31)) fb fb _ 47 w.heap.size _ 31) := Lib.hid ⟨block_below hf ((Below.refl _ _).alloc (Nat.le_refl _) _), at_a0 _ _ _, Only.of_below ((Below.refl _ _).alloc (Nat.le_refl _) _)⟩
  obtain ⟨a0, a1, a2, a3, a4, a5⟩ := cells6 (hf)
  have BD := Lib.hid (fun w => bad_any c2 p2 w)
  have hgr := byte_le gr
  go_enter Try.func126, Try.ntmps126
  go_upto_region 5 with (first | (go_at_call 66; (with_reducible refine (LK.out _).mono ?_); rintro e w1 ⟨rfl, hb1⟩; have S1 := Lib.hid (S0.out.below hb1); obtain ⟨b10, b11, b12, b13, b14, b15⟩ := cells6 (S1.out.fr); obtain ⟨b1f0, b1f1, b1f2, b1f3, b1f4, b1f5⟩ := frees6 (S1.out.fr); obtain ⟨z10, z11⟩ := cells2 (S1.out.zr); obtain ⟨z1f0, z1f1⟩ := frees2 (S1.out.zr); clear hb1) | (go_at_call 58; (with_reducible refine (IN.out _).mono ?_); rintro e w2 ⟨rfl, r2, hb2⟩; have R2 := Lib.hid r2; have S2 := Lib.hid (S1.out.below hb2); have hzi : w.heap.size ≠ w1.heap.size := fun e => (by have h9 := (Array.getElem?_eq_some_iff.1 S1.out.zr).1; omega); have hwi : w.heap.size ≤ w1.heap.size := S1.out.on.size; obtain ⟨b20, b21, b22, b23, b24, b25⟩ := cells6 (S2.out.fr); obtain ⟨b2f0, b2f1, b2f2, b2f3, b2f4, b2f5⟩ := frees6 (S2.out.fr); obtain ⟨z20, z21⟩ := cells2 (S2.out.zr); obtain ⟨z2f0, z2f1⟩ := frees2 (S2.out.zr); clear r2 hb2))
  generalize w1.heap.size = ib at *
  generalize hzb : w.heap.size = zb at *
  have HZB := Lib.hid hzb
  clear S1 LK IN hzb hf b1f0 b1f1 b1f2 b1f3 b1f4 b1f5 b10 b11 b12 b13 b14 b15 z1f0 z1f1 z10 z11 a0 a1 a2 a3 a4 a5
  have hfi : fb ≠ ib := by omega
  have hif : ib ≠ fb := by omega
  have hzf : zb ≠ fb := by omega
  have hwz : w.heap.size ≤ zb := Nat.le_of_eq HZB.out
  have hwi : w.heap.size ≤ ib := by omega
  go_upto_region 8 with (first | (go_at_call 108; (with_reducible refine (GR.out _).mono ?_); rintro e w3 ⟨rfl, hb3⟩; have S3 := Lib.hid (S2.out.below hb3); have R3 := Lib.hid (R2.out.below hb3); obtain ⟨b30, b31, b32, b33, b34, b35⟩ := cells6 (S3.out.fr); obtain ⟨b3f0, b3f1, b3f2, b3f3, b3f4, b3f5⟩ := frees6 (S3.out.fr); obtain ⟨z30, z31⟩ := cells2 (S3.out.zr); obtain ⟨z3f0, z3f1⟩ := frees2 (S3.out.zr); clear hb3) | (go_at_call 93; (with_reducible refine (C1.out ib _ R3.out).mono ?_); rintro e w4 ⟨rfl, r4, o4⟩; have R4 := Lib.hid r4; have S4 := Lib.hid (S3.out.read o4 hfi hzi (.inr hwi)); obtain ⟨b40, b41, b42, b43, b44, b45⟩ := cells6 (S4.out.fr); obtain ⟨b4f0, b4f1, b4f2, b4f3, b4f4, b4f5⟩ := frees6 (S4.out.fr); obtain ⟨z40, z41⟩ := cells2 (S4.out.zr); obtain ⟨z4f0, z4f1⟩ := frees2 (S4.out.zr); clear r4 o4) | (go_at_call 98; (with_reducible refine (AT.out ib _ (R4.out.putO hif _)).mono ?_); rintro e w5 ⟨rfl, rfl⟩; skip))
  have R5 := Lib.hid (R4.out.putO hif (.int .u8 gr.toNat) (j := 3))
  have S5 : Hid (ST w (w4.setCell ⟨fb, 3, none⟩ (.int .u8 gr.toNat)) fb fb #[.string ⟨id.toArray⟩, .int .u8 st.toNat, .int .u8 fm.toNat, .int .u8 gr.toNat, .string ⟨[].toArray⟩, .int .i64 pl] 47 zb #[.int .i64 0, .int .i64 0] 31) := Lib.hid (S4.out.put 3 (.int .u8 gr.toNat) hzf (.inl rfl))
  generalize w4.setCell ⟨fb, 3, none⟩ (.int .u8 gr.toNat) = w5 at *
  obtain ⟨b50, b51, b52, b53, b54, b55⟩ := cells6 (S5.out.fr); obtain ⟨b5f0, b5f1, b5f2, b5f3, b5f4, b5f5⟩ := frees6 (S5.out.fr)
  obtain ⟨z50, z51⟩ := cells2 (S5.out.zr); obtain ⟨z5f0, z5f1⟩ := frees2 (S5.out.zr)
  rcases HC with ⟨hc2, rfl, rfl⟩ | ⟨rfl, HC⟩
  · rw [show (c != 0) = true by simpa using hc2] at BD
    go_wp2_with (first | (go_at_call 122; (with_reducible refine (ME.out _).mono ?_); rintro e w6 ⟨rfl, hb6⟩; have S6 := Lib.hid (S5.out.below hb6); have R6 := Lib.hid (R5.out.below hb6); obtain ⟨b60, b61, b62, b63, b64, b65⟩ := cells6 (S6.out.fr); obtain ⟨b6f0, b6f1, b6f2, b6f3, b6f4, b6f5⟩ := frees6 (S6.out.fr); obtain ⟨z60, z61⟩ := cells2 (S6.out.zr); obtain ⟨z6f0, z6f1⟩ := frees2 (S6.out.zr); clear hb6) | (go_at_call 55; (with_reducible refine (SF.out ib _ R6.out).mono ?_); rintro e w7 ⟨rfl, r7, o7⟩; have R7 := Lib.hid r7; have S7 := Lib.hid (S6.out.read o7 hfi hzi (.inr hwi)); obtain ⟨b70, b71, b72, b73, b74, b75⟩ := cells6 (S7.out.fr); obtain ⟨b7f0, b7f1, b7f2, b7f3, b7f4, b7f5⟩ := frees6 (S7.out.fr); obtain ⟨z70, z71⟩ := cells2 (S7.out.zr); obtain ⟨z7f0, z7f1⟩ := frees2 (S7.out.zr); clear r7 o7) | (go_at_call 56; (with_reducible refine (FA.out ib _ R7.out).mono ?_); rintro e w8 ⟨rfl, hb8⟩; have S8 := Lib.hid (S7.out.below hb8); have R8 := Lib.hid (R7.out.below hb8); obtain ⟨b80, b81, b82, b83, b84, b85⟩ := cells6 (S8.out.fr); obtain ⟨b8f0, b8f1, b8f2, b8f3, b8f4, b8f5⟩ := frees6 (S8.out.fr); obtain ⟨z80, z81⟩ := cells2 (S8.out.zr); obtain ⟨z8f0, z8f1⟩ := frees2 (S8.out.zr); clear hb8) | (go_at_call 16; (with_reducible refine (BD.out _).mono ?_); rintro e w9 ⟨rfl, hb9⟩; have S9 := Lib.hid ((S8.out.alloc _).below hb9); have R9 := Lib.hid ((R8.out.alloc _).below hb9); obtain ⟨b90, b91, b92, b93, b94, b95⟩ := cells6 (S9.out.fr); obtain ⟨b9f0, b9f1, b9f2, b9f3, b9f4, b9f5⟩ := frees6 (S9.out.fr); obtain ⟨z90, z91⟩ := cells2 (S9.out.zr); obtain ⟨z9f0, z9f1⟩ := frees2 (S9.out.zr); have X9 := block_below (at_a0 w8 _ _) hb9; obtain ⟨x0, x1⟩ := cells2 (X9); clear hb9))
    refine end_cell rfl rfl rfl (store2 S9.out.zr rfl) Try.underlying31 rfl (by kernel_rfl) ⟨rfl, ?_, fun e => absurd e hc2⟩
    exact (S9.out.on.other (Only.set _) (.inr hwz)).other (Only.set _) (.inr hwz)
  rw [show ((0 : Int) != 0) = false by rfl] at BD
  go_upto_region 14 with (first | (go_at_call 122; (with_reducible refine (ME.out _).mono ?_); rintro e w6 ⟨rfl, hb6⟩; have S6 := Lib.hid (S5.out.below hb6); have R6 := Lib.hid (R5.out.below hb6); obtain ⟨b60, b61, b62, b63, b64, b65⟩ := cells6 (S6.out.fr); obtain ⟨b6f0, b6f1, b6f2, b6f3, b6f4, b6f5⟩ := frees6 (S6.out.fr); obtain ⟨z60, z61⟩ := cells2 (S6.out.zr); obtain ⟨z6f0, z6f1⟩ := frees2 (S6.out.zr); clear hb6) | (go_at_call 55; (with_reducible refine (SF.out ib _ R6.out).mono ?_); rintro e w7 ⟨rfl, r7, o7⟩; have R7 := Lib.hid r7; have S7 := Lib.hid (S6.out.read o7 hfi hzi (.inr hwi)); obtain ⟨b70, b71, b72, b73, b74, b75⟩ := cells6 (S7.out.fr); obtain ⟨b7f0, b7f1, b7f2, b7f3, b7f4, b7f5⟩ := frees6 (S7.out.fr); obtain ⟨z70, z71⟩ := cells2 (S7.out.zr); obtain ⟨z7f0, z7f1⟩ := frees2 (S7.out.zr); clear r7 o7) | (go_at_call 56; (with_reducible refine (FA.out ib _ R7.out).mono ?_); rintro e w8 ⟨rfl, hb8⟩; have S8 := Lib.hid (S7.out.below hb8); have R8 := Lib.hid (R7.out.below hb8); obtain ⟨b80, b81, b82, b83, b84, b85⟩ := cells6 (S8.out.fr); obtain ⟨b8f0, b8f1, b8f2, b8f3, b8f4, b8f5⟩ := frees6 (S8.out.fr); obtain ⟨z80, z81⟩ := cells2 (S8.out.zr); obtain ⟨z8f0, z8f1⟩ := frees2 (S8.out.zr); clear hb8) | (go_at_call 16; (with_reducible refine (BD.out _).mono ?_); rintro e w9 ⟨rfl, hb9⟩; have S9 := Lib.hid ((S8.out.alloc _).below hb9); have R9 := Lib.hid ((R8.out.alloc _).below hb9); obtain ⟨b90, b91, b92, b93, b94, b95⟩ := cells6 (S9.out.fr); obtain ⟨b9f0, b9f1, b9f2, b9f3, b9f4, b9f5⟩ := frees6 (S9.out.fr); obtain ⟨z90, z91⟩ := cells2 (S9.out.zr); obtain ⟨z9f0, z9f1⟩ := frees2 (S9.out.zr); have X9 := block_below (at_a0 w8 _ _) hb9; obtain ⟨x0, x1⟩ := cells2 (X9); clear hb9) | (go_at_call 62; (with_reducible refine (RE.out ib _ R9.out).mono ?_); rintro e w10 ⟨rfl, r10, o10⟩; have R10 := Lib.hid r10; have S10 := Lib.hid (S9.out.read o10 hfi hzi (.inr hwi)); obtain ⟨b100, b101, b102, b103, b104, b105⟩ := cells6 (S10.out.fr); obtain ⟨b10f0, b10f1, b10f2, b10f3, b10f4, b10f5⟩ := frees6 (S10.out.fr); obtain ⟨z100, z101⟩ := cells2 (S10.out.zr); obtain ⟨z10f0, z10f1⟩ := frees2 (S10.out.zr); clear r10 o10))
  have S11 : Hid (ST w (w10.setCell ⟨fb, 4, none⟩ (.string ⟨bo0.toArray⟩)) fb fb #[.string ⟨id.toArray⟩, .int .u8 st.toNat, .int .u8 fm.toNat, .int .u8 gr.toNat, .string ⟨bo0.toArray⟩, .int .i64 pl] 47 zb #[.int .i64 0, .int .i64 0] 31) := Lib.hid (S10.out.put 4 (.string ⟨bo0.toArray⟩) hzf (.inl rfl))
  generalize w10.setCell ⟨fb, 4, none⟩ (.string ⟨bo0.toArray⟩) = w11 at *
  obtain ⟨b110, b111, b112, b113, b114, b115⟩ := cells6 (S11.out.fr); obtain ⟨b11f0, b11f1, b11f2, b11f3, b11f4, b11f5⟩ := frees6 (S11.out.fr)
  obtain ⟨z110, z111⟩ := cells2 (S11.out.zr); obtain ⟨z11f0, z11f1⟩ := frees2 (S11.out.zr)
  rcases HC with ⟨hme, rfl, rfl⟩ | ⟨hme, rfl, rfl⟩
  · have t1 : (me != (bo.length : Int)) = true := by simpa using hme
    go_wp2_with (first | (go_at_call 24; (with_reducible refine (SP.out _).mono ?_); rintro e w12 ⟨rfl, hb12⟩; have S12 := Lib.hid (S11.out.below hb12); obtain ⟨b120, b121, b122, b123, b124, b125⟩ := cells6 (S12.out.fr); obtain ⟨b12f0, b12f1, b12f2, b12f3, b12f4, b12f5⟩ := frees6 (S12.out.fr); obtain ⟨z120, z121⟩ := cells2 (S12.out.zr); obtain ⟨z12f0, z12f1⟩ := frees2 (S12.out.zr); clear hb12) | (go_at_call 45; (with_reducible refine (DR.out _).mono ?_); rintro e w13 ⟨rfl, hb13⟩; have S13 := Lib.hid (S12.out.below hb13); obtain ⟨b130, b131, b132, b133, b134, b135⟩ := cells6 (S13.out.fr); obtain ⟨b13f0, b13f1, b13f2, b13f3, b13f4, b13f5⟩ := frees6 (S13.out.fr); obtain ⟨z130, z131⟩ := cells2 (S13.out.zr); obtain ⟨z13f0, z13f1⟩ := frees2 (S13.out.zr); clear hb13) | (go_at_call 122; (with_reducible refine (ME.out _).mono ?_); rintro e w15 ⟨rfl, hb15⟩; have S15 : Hid (ST w w15 fb fb #[.string ⟨id.toArray⟩, .int .u8 st.toNat, .int .u8 fm.toNat, .int .u8 gr.toNat, .string ⟨bo.toArray⟩, .int .i64 pl] 47 zb #[.int .i64 0, .int .i64 0] 31) := Lib.hid ((S13.out.put 4 (.string ⟨bo.toArray⟩) hzf (.inl rfl)).below hb15); obtain ⟨b150, b151, b152, b153, b154, b155⟩ := cells6 (S15.out.fr); obtain ⟨b15f0, b15f1, b15f2, b15f3, b15f4, b15f5⟩ := frees6 (S15.out.fr); obtain ⟨z150, z151⟩ := cells2 (S15.out.zr); obtain ⟨z15f0, z15f1⟩ := frees2 (S15.out.zr); clear hb15))
    refine end_cell rfl rfl rfl (store2 S15.out.zr rfl) Try.underlying31 rfl (by kernel_rfl) (FillSays.mk rfl ?_ ?_)
    · exact (S15.out.on.other (Only.set _) (.inr hwz)).other (Only.set _) (.inr hwz)
    · exact (heap_set_other _ (fun e => hzf e.symm)).trans ((heap_set_other _ (fun e => hzf e.symm)).trans S15.out.fr)
  · have t1 : (me != (bo.length : Int)) = false := by simpa using hme
    go_wp2_with (first | (go_at_call 24; (with_reducible refine (SP.out _).mono ?_); rintro e w12 ⟨rfl, hb12⟩; have S12 := Lib.hid (S11.out.below hb12); obtain ⟨b120, b121, b122, b123, b124, b125⟩ := cells6 (S12.out.fr); obtain ⟨b12f0, b12f1, b12f2, b12f3, b12f4, b12f5⟩ := frees6 (S12.out.fr); obtain ⟨z120, z121⟩ := cells2 (S12.out.zr); obtain ⟨z12f0, z12f1⟩ := frees2 (S12.out.zr); clear hb12) | (go_at_call 45; (with_reducible refine (DR.out _).mono ?_); rintro e w13 ⟨rfl, hb13⟩; have S13 := Lib.hid (S12.out.below hb13); obtain ⟨b130, b131, b132, b133, b134, b135⟩ := cells6 (S13.out.fr); obtain ⟨b13f0, b13f1, b13f2, b13f3, b13f4, b13f5⟩ := frees6 (S13.out.fr); obtain ⟨z130, z131⟩ := cells2 (S13.out.zr); obtain ⟨z13f0, z13f1⟩ := frees2 (S13.out.zr); clear hb13) | (go_at_call 122; (with_reducible refine (ME.out _).mono ?_); rintro e w15 ⟨rfl, hb15⟩; have S15 : Hid (ST w w15 fb fb #[.string ⟨id.toArray⟩, .int .u8 st.toNat, .int .u8 fm.toNat, .int .u8 gr.toNat, .string ⟨bo.toArray⟩, .int .i64 pl] 47 zb #[.int .i64 0, .int .i64 0] 31) := Lib.hid ((S13.out.put 4 (.string ⟨bo.toArray⟩) hzf (.inl rfl)).below hb15); obtain ⟨b150, b151, b152, b153, b154, b155⟩ := cells6 (S15.out.fr); obtain ⟨b15f0, b15f1, b15f2, b15f3, b15f4, b15f5⟩ := frees6 (S15.out.fr); obtain ⟨z150, z151⟩ := cells2 (S15.out.zr); obtain ⟨z15f0, z15f1⟩ := frees2 (S15.out.zr); clear hb15))
    refine end_cell rfl rfl rfl (store2 S15.out.zr rfl) Try.underlying31 rfl (by kernel_rfl) (FillSays.mk rfl ?_ ?_)
    · exact (S15.out.on.other (Only.set _) (.inr hwz)).other (Only.set _) (.inr hwz)
    · exact (heap_set_other _ (fun e => hzf e.symm)).trans ((heap_set_other _ (fun e => hzf e.symm)).trans S15.out.fr)
set_option maxHeartbeats 4000000 in
set_option maxRecDepth 100000 in
theorem fill_110 (v : Int) (fb : Nat) (id : List UInt8) (st fm gr : UInt8) (data bo0 bo : List UInt8) (pl at0 c2 p2 p1 me c p : Int) (m0 m1 m2 m3 : Rd) (w : World) (hf : w.heap[fb]? = some (.cells (frC id st fm 0 [] pl) 47 (0, 0)))
    (LK : Hid (∀ w, Calls Try.prog 66 #[hdV id st fm, .int .i64 v] w fun e w' => e = .returned (.bool false) ∧ Below w.heap.size w w'))
    (GR : Hid (∀ w, Calls Try.prog 108 #[hdV id st fm, .int .i64 v] w fun e w' => e = .returned (.bool true) ∧ Below w.heap.size w w'))
    (ME : Hid (∀ w, Calls Try.prog 122 #[hdV id st fm, .int .i64 v] w fun e w' => e = .returned (.bool true) ∧ Below w.heap.size w w'))
    (SP : Hid (∀ w, Calls Try.prog 24 #[hdV id st fm, .int .i64 v] w fun e w' => e = .returned (.bool false) ∧ Below w.heap.size w w'))
    (IN : Hid (∀ w, Calls Try.prog 58 #[.string ⟨data.toArray⟩, .int .i64 at0] w fun e w' => e = .returned (.pointer (some ⟨w.heap.size, 0, none⟩)) ∧ RdAt w' w.heap.size m0 ∧ Below w.heap.size w w'))
    (C1 : Hid (∀ ib w, RdAt w ib m0 → Calls Try.prog 93 #[.pointer (some ⟨ib, 0, none⟩), .int .i64 1] w fun e w' => e = .returned (.int .u64 gr.toNat) ∧ RdAt w' ib m1 ∧ Only ib w w'))
    (AT : Hid (∀ ib w, RdAt w ib m1 → Calls Try.prog 98 #[.pointer (some ⟨ib, 0, none⟩)] w fun e w' => e = .returned (.int .i64 p1) ∧ w = w'))
    (SF : Hid (∀ ib w, RdAt w ib m1 → Calls Try.prog 55 #[.pointer (some ⟨ib, 0, none⟩)] w fun e w' => e = .returned (.int .i64 me) ∧ RdAt w' ib m2 ∧ Only ib w w'))
    (FA : Hid (∀ ib w, RdAt w ib m2 → Calls Try.prog 56 #[.pointer (some ⟨ib, 0, none⟩)] w fun e w' => e = .returned (.agg #[.int .i64 c2, .int .i64 p2]) ∧ Below w.heap.size w w'))
    (RE : Hid (∀ ib w, RdAt w ib m2 → Calls Try.prog 62 #[.pointer (some ⟨ib, 0, none⟩)] w fun e w' => e = .returned (.string ⟨bo0.toArray⟩) ∧ RdAt w' ib m3 ∧ Only ib w w'))
    (E3 : bo = bo0)
    (HC : (c2 ≠ 0 ∧ c = c2 ∧ p = p2) ∨ (c2 = 0 ∧ ((me ≠ bo.length ∧ c = 1 ∧ p = p1) ∨ (me = bo.length ∧ c = 0 ∧ p = 0))))
    : Calls Try.prog 126 #[.pointer (some ⟨fb, 0, none⟩), .int .i64 v, .string ⟨data.toArray⟩, .int .i64 at0] w (FillSays fb id st fm gr bo pl c p w) := by
  subst E3
  unfold frC hdV at *
  have hlt : fb < w.heap.size := (Array.getElem?_eq_some_iff.1 hf).1
  have S0 : Hid (ST w (w.alloc (.cells #[.int .i64 0, .int .i64 0] 31)) fb fb _ 47 w.heap.size _ 31) := Lib.hid ⟨block_below hf ((Below.refl _ _).alloc (Nat.le_refl _) _), at_a0 _ _ _, Only.of_below ((Below.refl _ _).alloc (Nat.le_refl _) _)⟩
  obtain ⟨a0, a1, a2, a3, a4, a5⟩ := cells6 (hf)
  have BD := Lib.hid (fun w => bad_any c2 p2 w)
  have hgr := byte_le gr
  go_enter Try.func126, Try.ntmps126
  go_upto_region 5 with (first | (go_at_call 66; (with_reducible refine (LK.out _).mono ?_); rintro e w1 ⟨rfl, hb1⟩; have S1 := Lib.hid (S0.out.below hb1); obtain ⟨b10, b11, b12, b13, b14, b15⟩ := cells6 (S1.out.fr); obtain ⟨b1f0, b1f1, b1f2, b1f3, b1f4, b1f5⟩ := frees6 (S1.out.fr); obtain ⟨z10, z11⟩ := cells2 (S1.out.zr); obtain ⟨z1f0, z1f1⟩ := frees2 (S1.out.zr); clear hb1) | (go_at_call 58; (with_reducible refine (IN.out _).mono ?_); rintro e w2 ⟨rfl, r2, hb2⟩; have R2 := Lib.hid r2; have S2 := Lib.hid (S1.out.below hb2); have hzi : w.heap.size ≠ w1.heap.size := fun e => (by have h9 := (Array.getElem?_eq_some_iff.1 S1.out.zr).1; omega); have hwi : w.heap.size ≤ w1.heap.size := S1.out.on.size; obtain ⟨b20, b21, b22, b23, b24, b25⟩ := cells6 (S2.out.fr); obtain ⟨b2f0, b2f1, b2f2, b2f3, b2f4, b2f5⟩ := frees6 (S2.out.fr); obtain ⟨z20, z21⟩ := cells2 (S2.out.zr); obtain ⟨z2f0, z2f1⟩ := frees2 (S2.out.zr); clear r2 hb2))
  generalize w1.heap.size = ib at *
  generalize hzb : w.heap.size = zb at *
  have HZB := Lib.hid hzb
  clear S1 LK IN hzb hf b1f0 b1f1 b1f2 b1f3 b1f4 b1f5 b10 b11 b12 b13 b14 b15 z1f0 z1f1 z10 z11 a0 a1 a2 a3 a4 a5
  have hfi : fb ≠ ib := by omega
  have hif : ib ≠ fb := by omega
  have hzf : zb ≠ fb := by omega
  have hwz : w.heap.size ≤ zb := Nat.le_of_eq HZB.out
  have hwi : w.heap.size ≤ ib := by omega
  go_upto_region 8 with (first | (go_at_call 108; (with_reducible refine (GR.out _).mono ?_); rintro e w3 ⟨rfl, hb3⟩; have S3 := Lib.hid (S2.out.below hb3); have R3 := Lib.hid (R2.out.below hb3); obtain ⟨b30, b31, b32, b33, b34, b35⟩ := cells6 (S3.out.fr); obtain ⟨b3f0, b3f1, b3f2, b3f3, b3f4, b3f5⟩ := frees6 (S3.out.fr); obtain ⟨z30, z31⟩ := cells2 (S3.out.zr); obtain ⟨z3f0, z3f1⟩ := frees2 (S3.out.zr); clear hb3) | (go_at_call 93; (with_reducible refine (C1.out ib _ R3.out).mono ?_); rintro e w4 ⟨rfl, r4, o4⟩; have R4 := Lib.hid r4; have S4 := Lib.hid (S3.out.read o4 hfi hzi (.inr hwi)); obtain ⟨b40, b41, b42, b43, b44, b45⟩ := cells6 (S4.out.fr); obtain ⟨b4f0, b4f1, b4f2, b4f3, b4f4, b4f5⟩ := frees6 (S4.out.fr); obtain ⟨z40, z41⟩ := cells2 (S4.out.zr); obtain ⟨z4f0, z4f1⟩ := frees2 (S4.out.zr); clear r4 o4) | (go_at_call 98; (with_reducible refine (AT.out ib _ (R4.out.putO hif _)).mono ?_); rintro e w5 ⟨rfl, rfl⟩; skip))
  have R5 := Lib.hid (R4.out.putO hif (.int .u8 gr.toNat) (j := 3))
  have S5 : Hid (ST w (w4.setCell ⟨fb, 3, none⟩ (.int .u8 gr.toNat)) fb fb #[.string ⟨id.toArray⟩, .int .u8 st.toNat, .int .u8 fm.toNat, .int .u8 gr.toNat, .string ⟨[].toArray⟩, .int .i64 pl] 47 zb #[.int .i64 0, .int .i64 0] 31) := Lib.hid (S4.out.put 3 (.int .u8 gr.toNat) hzf (.inl rfl))
  generalize w4.setCell ⟨fb, 3, none⟩ (.int .u8 gr.toNat) = w5 at *
  obtain ⟨b50, b51, b52, b53, b54, b55⟩ := cells6 (S5.out.fr); obtain ⟨b5f0, b5f1, b5f2, b5f3, b5f4, b5f5⟩ := frees6 (S5.out.fr)
  obtain ⟨z50, z51⟩ := cells2 (S5.out.zr); obtain ⟨z5f0, z5f1⟩ := frees2 (S5.out.zr)
  rcases HC with ⟨hc2, rfl, rfl⟩ | ⟨rfl, HC⟩
  · rw [show (c != 0) = true by simpa using hc2] at BD
    go_wp2_with (first | (go_at_call 122; (with_reducible refine (ME.out _).mono ?_); rintro e w6 ⟨rfl, hb6⟩; have S6 := Lib.hid (S5.out.below hb6); have R6 := Lib.hid (R5.out.below hb6); obtain ⟨b60, b61, b62, b63, b64, b65⟩ := cells6 (S6.out.fr); obtain ⟨b6f0, b6f1, b6f2, b6f3, b6f4, b6f5⟩ := frees6 (S6.out.fr); obtain ⟨z60, z61⟩ := cells2 (S6.out.zr); obtain ⟨z6f0, z6f1⟩ := frees2 (S6.out.zr); clear hb6) | (go_at_call 55; (with_reducible refine (SF.out ib _ R6.out).mono ?_); rintro e w7 ⟨rfl, r7, o7⟩; have R7 := Lib.hid r7; have S7 := Lib.hid (S6.out.read o7 hfi hzi (.inr hwi)); obtain ⟨b70, b71, b72, b73, b74, b75⟩ := cells6 (S7.out.fr); obtain ⟨b7f0, b7f1, b7f2, b7f3, b7f4, b7f5⟩ := frees6 (S7.out.fr); obtain ⟨z70, z71⟩ := cells2 (S7.out.zr); obtain ⟨z7f0, z7f1⟩ := frees2 (S7.out.zr); clear r7 o7) | (go_at_call 56; (with_reducible refine (FA.out ib _ R7.out).mono ?_); rintro e w8 ⟨rfl, hb8⟩; have S8 := Lib.hid (S7.out.below hb8); have R8 := Lib.hid (R7.out.below hb8); obtain ⟨b80, b81, b82, b83, b84, b85⟩ := cells6 (S8.out.fr); obtain ⟨b8f0, b8f1, b8f2, b8f3, b8f4, b8f5⟩ := frees6 (S8.out.fr); obtain ⟨z80, z81⟩ := cells2 (S8.out.zr); obtain ⟨z8f0, z8f1⟩ := frees2 (S8.out.zr); clear hb8) | (go_at_call 16; (with_reducible refine (BD.out _).mono ?_); rintro e w9 ⟨rfl, hb9⟩; have S9 := Lib.hid ((S8.out.alloc _).below hb9); have R9 := Lib.hid ((R8.out.alloc _).below hb9); obtain ⟨b90, b91, b92, b93, b94, b95⟩ := cells6 (S9.out.fr); obtain ⟨b9f0, b9f1, b9f2, b9f3, b9f4, b9f5⟩ := frees6 (S9.out.fr); obtain ⟨z90, z91⟩ := cells2 (S9.out.zr); obtain ⟨z9f0, z9f1⟩ := frees2 (S9.out.zr); have X9 := block_below (at_a0 w8 _ _) hb9; obtain ⟨x0, x1⟩ := cells2 (X9); clear hb9))
    refine end_cell rfl rfl rfl (store2 S9.out.zr rfl) Try.underlying31 rfl (by kernel_rfl) ⟨rfl, ?_, fun e => absurd e hc2⟩
    exact (S9.out.on.other (Only.set _) (.inr hwz)).other (Only.set _) (.inr hwz)
  rw [show ((0 : Int) != 0) = false by rfl] at BD
  go_upto_region 14 with (first | (go_at_call 122; (with_reducible refine (ME.out _).mono ?_); rintro e w6 ⟨rfl, hb6⟩; have S6 := Lib.hid (S5.out.below hb6); have R6 := Lib.hid (R5.out.below hb6); obtain ⟨b60, b61, b62, b63, b64, b65⟩ := cells6 (S6.out.fr); obtain ⟨b6f0, b6f1, b6f2, b6f3, b6f4, b6f5⟩ := frees6 (S6.out.fr); obtain ⟨z60, z61⟩ := cells2 (S6.out.zr); obtain ⟨z6f0, z6f1⟩ := frees2 (S6.out.zr); clear hb6) | (go_at_call 55; (with_reducible refine (SF.out ib _ R6.out).mono ?_); rintro e w7 ⟨rfl, r7, o7⟩; have R7 := Lib.hid r7; have S7 := Lib.hid (S6.out.read o7 hfi hzi (.inr hwi)); obtain ⟨b70, b71, b72, b73, b74, b75⟩ := cells6 (S7.out.fr); obtain ⟨b7f0, b7f1, b7f2, b7f3, b7f4, b7f5⟩ := frees6 (S7.out.fr); obtain ⟨z70, z71⟩ := cells2 (S7.out.zr); obtain ⟨z7f0, z7f1⟩ := frees2 (S7.out.zr); clear r7 o7) | (go_at_call 56; (with_reducible refine (FA.out ib _ R7.out).mono ?_); rintro e w8 ⟨rfl, hb8⟩; have S8 := Lib.hid (S7.out.below hb8); have R8 := Lib.hid (R7.out.below hb8); obtain ⟨b80, b81, b82, b83, b84, b85⟩ := cells6 (S8.out.fr); obtain ⟨b8f0, b8f1, b8f2, b8f3, b8f4, b8f5⟩ := frees6 (S8.out.fr); obtain ⟨z80, z81⟩ := cells2 (S8.out.zr); obtain ⟨z8f0, z8f1⟩ := frees2 (S8.out.zr); clear hb8) | (go_at_call 16; (with_reducible refine (BD.out _).mono ?_); rintro e w9 ⟨rfl, hb9⟩; have S9 := Lib.hid ((S8.out.alloc _).below hb9); have R9 := Lib.hid ((R8.out.alloc _).below hb9); obtain ⟨b90, b91, b92, b93, b94, b95⟩ := cells6 (S9.out.fr); obtain ⟨b9f0, b9f1, b9f2, b9f3, b9f4, b9f5⟩ := frees6 (S9.out.fr); obtain ⟨z90, z91⟩ := cells2 (S9.out.zr); obtain ⟨z9f0, z9f1⟩ := frees2 (S9.out.zr); have X9 := block_below (at_a0 w8 _ _) hb9; obtain ⟨x0, x1⟩ := cells2 (X9); clear hb9) | (go_at_call 62; (with_reducible refine (RE.out ib _ R9.out).mono ?_); rintro e w10 ⟨rfl, r10, o10⟩; have R10 := Lib.hid r10; have S10 := Lib.hid (S9.out.read o10 hfi hzi (.inr hwi)); obtain ⟨b100, b101, b102, b103, b104, b105⟩ := cells6 (S10.out.fr); obtain ⟨b10f0, b10f1, b10f2, b10f3, b10f4, b10f5⟩ := frees6 (S10.out.fr); obtain ⟨z100, z101⟩ := cells2 (S10.out.zr); obtain ⟨z10f0, z10f1⟩ := frees2 (S10.out.zr); clear r10 o10))
  have S11 : Hid (ST w (w10.setCell ⟨fb, 4, none⟩ (.string ⟨bo.toArray⟩)) fb fb #[.string ⟨id.toArray⟩, .int .u8 st.toNat, .int .u8 fm.toNat, .int .u8 gr.toNat, .string ⟨bo.toArray⟩, .int .i64 pl] 47 zb #[.int .i64 0, .int .i64 0] 31) := Lib.hid (S10.out.put 4 (.string ⟨bo.toArray⟩) hzf (.inl rfl))
  generalize w10.setCell ⟨fb, 4, none⟩ (.string ⟨bo.toArray⟩) = w11 at *
  obtain ⟨b110, b111, b112, b113, b114, b115⟩ := cells6 (S11.out.fr); obtain ⟨b11f0, b11f1, b11f2, b11f3, b11f4, b11f5⟩ := frees6 (S11.out.fr)
  obtain ⟨z110, z111⟩ := cells2 (S11.out.zr); obtain ⟨z11f0, z11f1⟩ := frees2 (S11.out.zr)
  rcases HC with ⟨hme, rfl, rfl⟩ | ⟨hme, rfl, rfl⟩
  · have t1 : (me != (bo.length : Int)) = true := by simpa using hme
    go_wp2_with (first | (go_at_call 24; (with_reducible refine (SP.out _).mono ?_); rintro e w12 ⟨rfl, hb12⟩; have S12 := Lib.hid (S11.out.below hb12); obtain ⟨b120, b121, b122, b123, b124, b125⟩ := cells6 (S12.out.fr); obtain ⟨b12f0, b12f1, b12f2, b12f3, b12f4, b12f5⟩ := frees6 (S12.out.fr); obtain ⟨z120, z121⟩ := cells2 (S12.out.zr); obtain ⟨z12f0, z12f1⟩ := frees2 (S12.out.zr); clear hb12) | (go_at_call 122; (with_reducible refine (ME.out _).mono ?_); rintro e w15 ⟨rfl, hb15⟩; have S15 := Lib.hid (S12.out.below hb15); obtain ⟨b150, b151, b152, b153, b154, b155⟩ := cells6 (S15.out.fr); obtain ⟨b15f0, b15f1, b15f2, b15f3, b15f4, b15f5⟩ := frees6 (S15.out.fr); obtain ⟨z150, z151⟩ := cells2 (S15.out.zr); obtain ⟨z15f0, z15f1⟩ := frees2 (S15.out.zr); clear hb15))
    refine end_cell rfl rfl rfl (store2 S15.out.zr rfl) Try.underlying31 rfl (by kernel_rfl) (FillSays.mk rfl ?_ ?_)
    · exact (S15.out.on.other (Only.set _) (.inr hwz)).other (Only.set _) (.inr hwz)
    · exact (heap_set_other _ (fun e => hzf e.symm)).trans ((heap_set_other _ (fun e => hzf e.symm)).trans S15.out.fr)
  · have t1 : (me != (bo.length : Int)) = false := by simpa using hme
    go_wp2_with (first | (go_at_call 24; (with_reducible refine (SP.out _).mono ?_); rintro e w12 ⟨rfl, hb12⟩; have S12 := Lib.hid (S11.out.below hb12); obtain ⟨b120, b121, b122, b123, b124, b125⟩ := cells6 (S12.out.fr); obtain ⟨b12f0, b12f1, b12f2, b12f3, b12f4, b12f5⟩ := frees6 (S12.out.fr); obtain ⟨z120, z121⟩ := cells2 (S12.out.zr); obtain ⟨z12f0, z12f1⟩ := frees2 (S12.out.zr); clear hb12) | (go_at_call 122; (with_reducible refine (ME.out _).mono ?_); rintro e w15 ⟨rfl, hb15⟩; have S15 := Lib.hid (S12.out.below hb15); obtain ⟨b150, b151, b152, b153, b154, b155⟩ := cells6 (S15.out.fr); obtain ⟨b15f0, b15f1, b15f2, b15f3, b15f4, b15f5⟩ := frees6 (S15.out.fr); obtain ⟨z150, z151⟩ := cells2 (S15.out.zr); obtain ⟨z15f0, z15f1⟩ := frees2 (S15.out.zr); clear hb15))
    refine end_cell rfl rfl rfl (store2 S15.out.zr rfl) Try.underlying31 rfl (by kernel_rfl) (FillSays.mk rfl ?_ ?_)
    · exact (S15.out.on.other (Only.set _) (.inr hwz)).other (Only.set _) (.inr hwz)
    · exact (heap_set_other _ (fun e => hzf e.symm)).trans ((heap_set_other _ (fun e => hzf e.symm)).trans S15.out.fr)
set_option maxHeartbeats 4000000 in
set_option maxRecDepth 100000 in
theorem fill_101 (v : Int) (fb : Nat) (id : List UInt8) (st fm gr : UInt8) (data bo0 bo : List UInt8) (pl at0 c2 p2 p1 me c p : Int) (m0 m1 m2 m3 : Rd) (w : World) (hf : w.heap[fb]? = some (.cells (frC id st fm 0 [] pl) 47 (0, 0)))
    (LK : Hid (∀ w, Calls Try.prog 66 #[hdV id st fm, .int .i64 v] w fun e w' => e = .returned (.bool false) ∧ Below w.heap.size w w'))
    (GR : Hid (∀ w, Calls Try.prog 108 #[hdV id st fm, .int .i64 v] w fun e w' => e = .returned (.bool true) ∧ Below w.heap.size w w'))
    (ME : Hid (∀ w, Calls Try.prog 122 #[hdV id st fm, .int .i64 v] w fun e w' => e = .returned (.bool false) ∧ Below w.heap.size w w'))
    (SP : Hid (∀ w, Calls Try.prog 24 #[hdV id st fm, .int .i64 v] w fun e w' => e = .returned (.bool true) ∧ Below w.heap.size w w'))
    (IN : Hid (∀ w, Calls Try.prog 58 #[.string ⟨data.toArray⟩, .int .i64 at0] w fun e w' => e = .returned (.pointer (some ⟨w.heap.size, 0, none⟩)) ∧ RdAt w' w.heap.size m0 ∧ Below w.heap.size w w'))
    (C1 : Hid (∀ ib w, RdAt w ib m0 → Calls Try.prog 93 #[.pointer (some ⟨ib, 0, none⟩), .int .i64 1] w fun e w' => e = .returned (.int .u64 gr.toNat) ∧ RdAt w' ib m1 ∧ Only ib w w'))
    (AT : Hid (∀ ib w, RdAt w ib m1 → Calls Try.prog 98 #[.pointer (some ⟨ib, 0, none⟩)] w fun e w' => e = .returned (.int .i64 p1) ∧ w = w'))
    (E2 : m2 = m1)
    (FA : Hid (∀ ib w, RdAt w ib m2 → Calls Try.prog 56 #[.pointer (some ⟨ib, 0, none⟩)] w fun e w' => e = .returned (.agg #[.int .i64 c2, .int .i64 p2]) ∧ Below w.heap.size w w'))
    (RE : Hid (∀ ib w, RdAt w ib m2 → Calls Try.prog 62 #[.pointer (some ⟨ib, 0, none⟩)] w fun e w' => e = .returned (.string ⟨bo0.toArray⟩) ∧ RdAt w' ib m3 ∧ Only ib w w'))
    (DR : Hid (∀ w, Calls Try.prog 45 #[.string ⟨bo0.toArray⟩] w fun e w' => e = .returned (.string ⟨bo.toArray⟩) ∧ Below w.heap.size w w'))
    (HC : (c2 ≠ 0 ∧ c = c2 ∧ p = p2) ∨ (c2 = 0 ∧ c = 0 ∧ p = 0))
    : Calls Try.prog 126 #[.pointer (some ⟨fb, 0, none⟩), .int .i64 v, .string ⟨data.toArray⟩, .int .i64 at0] w (FillSays fb id st fm gr bo pl c p w) := by
  subst E2
  unfold frC hdV at *
  have hlt : fb < w.heap.size := (Array.getElem?_eq_some_iff.1 hf).1
  have S0 : Hid (ST w (w.alloc (.cells #[.int .i64 0, .int .i64 0] 31)) fb fb _ 47 w.heap.size _ 31) := Lib.hid ⟨block_below hf ((Below.refl _ _).alloc (Nat.le_refl _) _), at_a0 _ _ _, Only.of_below ((Below.refl _ _).alloc (Nat.le_refl _) _)⟩
  obtain ⟨a0, a1, a2, a3, a4, a5⟩ := cells6 (hf)
  have BD := Lib.hid (fun w => bad_any c2 p2 w)
  have hgr := byte_le gr
  go_enter Try.func126, Try.ntmps126
  go_upto_region 5 with (first | (go_at_call 66; (with_reducible refine (LK.out _).mono ?_); rintro e w1 ⟨rfl, hb1⟩; have S1 := Lib.hid (S0.out.below hb1); obtain ⟨b10, b11, b12, b13, b14, b15⟩ := cells6 (S1.out.fr); obtain ⟨b1f0, b1f1, b1f2, b1f3, b1f4, b1f5⟩ := frees6 (S1.out.fr); obtain ⟨z10, z11⟩ := cells2 (S1.out.zr); obtain ⟨z1f0, z1f1⟩ := frees2 (S1.out.zr); clear hb1) | (go_at_call 58; (with_reducible refine (IN.out _).mono ?_); rintro e w2 ⟨rfl, r2, hb2⟩; have R2 := Lib.hid r2; have S2 := Lib.hid (S1.out.below hb2); have hzi : w.heap.size ≠ w1.heap.size := fun e => (by have h9 := (Array.getElem?_eq_some_iff.1 S1.out.zr).1; omega); have hwi : w.heap.size ≤ w1.heap.size := S1.out.on.size; obtain ⟨b20, b21, b22, b23, b24, b25⟩ := cells6 (S2.out.fr); obtain ⟨b2f0, b2f1, b2f2, b2f3, b2f4, b2f5⟩ := frees6 (S2.out.fr); obtain ⟨z20, z21⟩ := cells2 (S2.out.zr); obtain ⟨z2f0, z2f1⟩ := frees2 (S2.out.zr); clear r2 hb2))
  generalize w1.heap.size = ib at *
  generalize hzb : w.heap.size = zb at *
  have HZB := Lib.hid hzb
  clear S1 LK IN hzb hf b1f0 b1f1 b1f2 b1f3 b1f4 b1f5 b10 b11 b12 b13 b14 b15 z1f0 z1f1 z10 z11 a0 a1 a2 a3 a4 a5
  have hfi : fb ≠ ib := by omega
  have hif : ib ≠ fb := by omega
  have hzf : zb ≠ fb := by omega
  have hwz : w.heap.size ≤ zb := Nat.le_of_eq HZB.out
  have hwi : w.heap.size ≤ ib := by omega
  go_upto_region 8 with (first | (go_at_call 108; (with_reducible refine (GR.out _).mono ?_); rintro e w3 ⟨rfl, hb3⟩; have S3 := Lib.hid (S2.out.below hb3); have R3 := Lib.hid (R2.out.below hb3); obtain ⟨b30, b31, b32, b33, b34, b35⟩ := cells6 (S3.out.fr); obtain ⟨b3f0, b3f1, b3f2, b3f3, b3f4, b3f5⟩ := frees6 (S3.out.fr); obtain ⟨z30, z31⟩ := cells2 (S3.out.zr); obtain ⟨z3f0, z3f1⟩ := frees2 (S3.out.zr); clear hb3) | (go_at_call 93; (with_reducible refine (C1.out ib _ R3.out).mono ?_); rintro e w4 ⟨rfl, r4, o4⟩; have R4 := Lib.hid r4; have S4 := Lib.hid (S3.out.read o4 hfi hzi (.inr hwi)); obtain ⟨b40, b41, b42, b43, b44, b45⟩ := cells6 (S4.out.fr); obtain ⟨b4f0, b4f1, b4f2, b4f3, b4f4, b4f5⟩ := frees6 (S4.out.fr); obtain ⟨z40, z41⟩ := cells2 (S4.out.zr); obtain ⟨z4f0, z4f1⟩ := frees2 (S4.out.zr); clear r4 o4) | (go_at_call 98; (with_reducible refine (AT.out ib _ (R4.out.putO hif _)).mono ?_); rintro e w5 ⟨rfl, rfl⟩; skip))
  have R5 := Lib.hid (R4.out.putO hif (.int .u8 gr.toNat) (j := 3))
  have S5 : Hid (ST w (w4.setCell ⟨fb, 3, none⟩ (.int .u8 gr.toNat)) fb fb #[.string ⟨id.toArray⟩, .int .u8 st.toNat, .int .u8 fm.toNat, .int .u8 gr.toNat, .string ⟨[].toArray⟩, .int .i64 pl] 47 zb #[.int .i64 0, .int .i64 0] 31) := Lib.hid (S4.out.put 3 (.int .u8 gr.toNat) hzf (.inl rfl))
  generalize w4.setCell ⟨fb, 3, none⟩ (.int .u8 gr.toNat) = w5 at *
  obtain ⟨b50, b51, b52, b53, b54, b55⟩ := cells6 (S5.out.fr); obtain ⟨b5f0, b5f1, b5f2, b5f3, b5f4, b5f5⟩ := frees6 (S5.out.fr)
  obtain ⟨z50, z51⟩ := cells2 (S5.out.zr); obtain ⟨z5f0, z5f1⟩ := frees2 (S5.out.zr)
  rcases HC with ⟨hc2, rfl, rfl⟩ | ⟨rfl, HC⟩
  · rw [show (c != 0) = true by simpa using hc2] at BD
    go_wp2_with (first | (go_at_call 122; (with_reducible refine (ME.out _).mono ?_); rintro e w6 ⟨rfl, hb6⟩; have S6 := Lib.hid (S5.out.below hb6); have R6 := Lib.hid (R5.out.below hb6); obtain ⟨b60, b61, b62, b63, b64, b65⟩ := cells6 (S6.out.fr); obtain ⟨b6f0, b6f1, b6f2, b6f3, b6f4, b6f5⟩ := frees6 (S6.out.fr); obtain ⟨z60, z61⟩ := cells2 (S6.out.zr); obtain ⟨z6f0, z6f1⟩ := frees2 (S6.out.zr); clear hb6) | (go_at_call 56; (with_reducible refine (FA.out ib _ R6.out).mono ?_); rintro e w8 ⟨rfl, hb8⟩; have S8 := Lib.hid (S6.out.below hb8); have R8 := Lib.hid (R6.out.below hb8); obtain ⟨b80, b81, b82, b83, b84, b85⟩ := cells6 (S8.out.fr); obtain ⟨b8f0, b8f1, b8f2, b8f3, b8f4, b8f5⟩ := frees6 (S8.out.fr); obtain ⟨z80, z81⟩ := cells2 (S8.out.zr); obtain ⟨z8f0, z8f1⟩ := frees2 (S8.out.zr); clear hb8) | (go_at_call 16; (with_reducible refine (BD.out _).mono ?_); rintro e w9 ⟨rfl, hb9⟩; have S9 := Lib.hid ((S8.out.alloc _).below hb9); have R9 := Lib.hid ((R8.out.alloc _).below hb9); obtain ⟨b90, b91, b92, b93, b94, b95⟩ := cells6 (S9.out.fr); obtain ⟨b9f0, b9f1, b9f2, b9f3, b9f4, b9f5⟩ := frees6 (S9.out.fr); obtain ⟨z90, z91⟩ := cells2 (S9.out.zr); obtain ⟨z9f0, z9f1⟩ := frees2 (S9.out.zr); have X9 := block_below (at_a0 w8 _ _) hb9; obtain ⟨x0, x1⟩ := cells2 (X9); clear hb9))
    refine end_cell rfl rfl rfl (store2 S9.out.zr rfl) Try.underlying31 rfl (by kernel_rfl) ⟨rfl, ?_, fun e => absurd e hc2⟩
    exact (S9.out.on.other (Only.set _) (.inr hwz)).other (Only.set _) (.inr hwz)
  rw [show ((0 : Int) != 0) = false by rfl] at BD
  go_upto_region 14 with (first | (go_at_call 122; (with_reducible refine (ME.out _).mono ?_); rintro e w6 ⟨rfl, hb6⟩; have S6 := Lib.hid (S5.out.below hb6); have R6 := Lib.hid (R5.out.below hb6); obtain ⟨b60, b61, b62, b63, b64, b65⟩ := cells6 (S6.out.fr); obtain ⟨b6f0, b6f1, b6f2, b6f3, b6f4, b6f5⟩ := frees6 (S6.out.fr); obtain ⟨z60, z61⟩ := cells2 (S6.out.zr); obtain ⟨z6f0, z6f1⟩ := frees2 (S6.out.zr); clear hb6) | (go_at_call 56; (with_reducible refine (FA.out ib _ R6.out).mono ?_); rintro e w8 ⟨rfl, hb8⟩; have S8 := Lib.hid (S6.out.below hb8); have R8 := Lib.hid (R6.out.below hb8); obtain ⟨b80, b81, b82, b83, b84, b85⟩ := cells6 (S8.out.fr); obtain ⟨b8f0, b8f1, b8f2, b8f3, b8f4, b8f5⟩ := frees6 (S8.out.fr); obtain ⟨z80, z81⟩ := cells2 (S8.out.zr); obtain ⟨z8f0, z8f1⟩ := frees2 (S8.out.zr); clear hb8) | (go_at_call 16; (with_reducible refine (BD.out _).mono ?_); rintro e w9 ⟨rfl, hb9⟩; have S9 := Lib.hid ((S8.out.alloc _).below hb9); have R9 := Lib.hid ((R8.out.alloc _).below hb9); obtain ⟨b90, b91, b92, b93, b94, b95⟩ := cells6 (S9.out.fr); obtain ⟨b9f0, b9f1, b9f2, b9f3, b9f4, b9f5⟩ := frees6 (S9.out.fr); obtain ⟨z90, z91⟩ := cells2 (S9.out.zr); obtain ⟨z9f0, z9f1⟩ := frees2 (S9.out.zr); have X9 := block_below (at_a0 w8 _ _) hb9; obtain ⟨x0, x1⟩ := cells2 (X9); clear hb9) | (go_at_call 62; (with_reducible refine (RE.out ib _ R9.out).mono ?_); rintro e w10 ⟨rfl, r10, o10⟩; have R10 := Lib.hid r10; have S10 := Lib.hid (S9.out.read o10 hfi hzi (.inr hwi)); obtain ⟨b100, b101, b102, b103, b104, b105⟩ := cells6 (S10.out.fr); obtain ⟨b10f0, b10f1, b10f2, b10f3, b10f4, b10f5⟩ := frees6 (S10.out.fr); obtain ⟨z100, z101⟩ := cells2 (S10.out.zr); obtain ⟨z10f0, z10f1⟩ := frees2 (S10.out.zr); clear r10 o10))
  have S11 : Hid (ST w (w10.setCell ⟨fb, 4, none⟩ (.string ⟨bo0.toArray⟩)) fb fb #[.string ⟨id.toArray⟩, .int .u8 st.toNat, .int .u8 fm.toNat, .int .u8 gr.toNat, .string ⟨bo0.toArray⟩, .int .i64 pl] 47 zb #[.int .i64 0, .int .i64 0] 31) := Lib.hid (S10.out.put 4 (.string ⟨bo0.toArray⟩) hzf (.inl rfl))
  generalize w10.setCell ⟨fb, 4, none⟩ (.string ⟨bo0.toArray⟩) = w11 at *
  obtain ⟨b110, b111, b112, b113, b114, b115⟩ := cells6 (S11.out.fr); obtain ⟨b11f0, b11f1, b11f2, b11f3, b11f4, b11f5⟩ := frees6 (S11.out.fr)
  obtain ⟨z110, z111⟩ := cells2 (S11.out.zr); obtain ⟨z11f0, z11f1⟩ := frees2 (S11.out.zr)
  obtain ⟨rfl, rfl⟩ := HC
  go_wp2_with (first | (go_at_call 24; (with_reducible refine (SP.out _).mono ?_); rintro e w12 ⟨rfl, hb12⟩; have S12 := Lib.hid (S11.out.below hb12); obtain ⟨b120, b121, b122, b123, b124, b125⟩ := cells6 (S12.out.fr); obtain ⟨b12f0, b12f1, b12f2, b12f3, b12f4, b12f5⟩ := frees6 (S12.out.fr); obtain ⟨z120, z121⟩ := cells2 (S12.out.zr); obtain ⟨z12f0, z12f1⟩ := frees2 (S12.out.zr); clear hb12) | (go_at_call 45; (with_reducible refine (DR.out _).mono ?_); rintro e w13 ⟨rfl, hb13⟩; have S13 := Lib.hid (S12.out.below hb13); obtain ⟨b130, b131, b132, b133, b134, b135⟩ := cells6 (S13.out.fr); obtain ⟨b13f0, b13f1, b13f2, b13f3, b13f4, b13f5⟩ := frees6 (S13.out.fr); obtain ⟨z130, z131⟩ := cells2 (S13.out.zr); obtain ⟨z13f0, z13f1⟩ := frees2 (S13.out.zr); clear hb13) | (go_at_call 122; (with_reducible refine (ME.out _).mono ?_); rintro e w15 ⟨rfl, hb15⟩; have S15 : Hid (ST w w15 fb fb #[.string ⟨id.toArray⟩, .int .u8 st.toNat, .int .u8 fm.toNat, .int .u8 gr.toNat, .string ⟨bo.toArray⟩, .int .i64 pl] 47 zb #[.int .i64 0, .int .i64 0] 31) := Lib.hid ((S13.out.put 4 (.string ⟨bo.toArray⟩) hzf (.inl rfl)).below hb15); obtain ⟨b150, b151, b152, b153, b154, b155⟩ := cells6 (S15.out.fr); obtain ⟨b15f0, b15f1, b15f2, b15f3, b15f4, b15f5⟩ := frees6 (S15.out.fr); obtain ⟨z150, z151⟩ := cells2 (S15.out.zr); obtain ⟨z15f0, z15f1⟩ := frees2 (S15.out.zr); clear hb15))
  refine end_cell rfl rfl rfl (store2 S15.out.zr rfl) Try.underlying31 rfl (by kernel_rfl) (FillSays.mk rfl ?_ ?_)
  · exact (S15.out.on.other (Only.set _) (.inr hwz)).other (Only.set _) (.inr hwz)
  · exact (heap_set_other _ (fun e => hzf e.symm)).trans ((heap_set_other _ (fun e => hzf e.symm)).trans S15.out.fr)
set_option maxHeartbeats 4000000 in
set_option maxRecDepth 100000 in
theorem fill_100 (v : Int) (fb : Nat) (id : List UInt8) (st fm gr : UInt8) (data bo0 bo : List UInt8) (pl at0 c2 p2 p1 me c p : Int) (m0 m1 m2 m3 : Rd) (w : World) (hf : w.heap[fb]? = some (.cells (frC id st fm 0 [] pl) 47 (0, 0)))
    (LK : Hid (∀ w, Calls Try.prog 66 #[hdV id st fm, .int .i64 v] w fun e w' => e = .returned (.bool false) ∧ Below w.heap.size w w'))
    (GR : Hid (∀ w, Calls Try.prog 108 #[hdV id st fm, .int .i64 v] w fun e w' => e = .returned (.bool true) ∧ Below w.heap.size w w'))
    (ME : Hid (∀ w, Calls Try.prog 122 #[hdV id st fm, .int .i64 v] w fun e w' => e = .returned (.bool false) ∧ Below w.heap.size w w'))
    (SP : Hid (∀ w, Calls Try.prog 24 #[hdV id st fm, .int .i64 v] w fun e w' => e = .returned (.bool false) ∧ Below w.heap.size w w'))
    (IN : Hid (∀ w, Calls Try.prog 58 #[.string ⟨data.toArray⟩, .int .i64 at0] w fun e w' => e = .returned (.pointer (some ⟨w.heap.size, 0, none⟩)) ∧ RdAt w' w.heap.size m0 ∧ Below w.heap.size w w'))
    (C1 : Hid (∀ ib w, RdAt w ib m0 → Calls Try.prog 93 #[.pointer (some ⟨ib, 0, none⟩), .int .i64 1] w fun e w' => e = .returned (.int .u64 gr.toNat) ∧ RdAt w' ib m1 ∧ Only ib w w'))
    (AT : Hid (∀ ib w, RdAt w ib m1 → Calls Try.prog 98 #[.pointer (some ⟨ib, 0, none⟩)] w fun e w' => e = .returned (.int .i64 p1) ∧ w = w'))
    (E2 : m2 = m1)
    (FA : Hid (∀ ib w, RdAt w ib m2 → Calls Try.prog 56 #[.pointer (some ⟨ib, 0, none⟩)] w fun e w' => e = .returned (.agg #[.int .i64 c2, .int .i64 p2]) ∧ Below w.heap.size w w'))
    (RE : Hid (∀ ib w, RdAt w ib m2 → Calls Try.prog 62 #[.pointer (some ⟨ib, 0, none⟩)] w fun e w' => e = .returned (.string ⟨bo0.toArray⟩) ∧ RdAt w' ib m3 ∧ Only ib w w'))
    (E3 : bo = bo0)
    (HC : (c2 ≠ 0 ∧ c = c2 ∧ p = p2) ∨ (c2 = 0 ∧ c = 0 ∧ p = 0))
    : Calls Try.prog 126 #[.pointer (some ⟨fb, 0, none⟩), .int .i64 v, .string ⟨data.toArray⟩, .int .i64 at0] w (FillSays fb id st fm gr bo pl c p w) := by
  subst E2
  subst E3
  unfold frC hdV at *
  have hlt : fb < w.heap.size := (Array.getElem?_eq_some_iff.1 hf).1
  have S0 : Hid (ST w (w.alloc (.cells #[.int .i64 0, .int .i64 0] 31)) fb fb _ 47 w.heap.size _ 31) := Lib.hid ⟨block_below hf ((Below.refl _ _).alloc (Nat.le_refl _) _), at_a0 _ _ _, Only.of_below ((Below.refl _ _).alloc (Nat.le_refl _) _)⟩
  obtain ⟨a0, a1, a2, a3, a4, a5⟩ := cells6 (hf)
  have BD := Lib.hid (fun w => bad_any c2 p2 w)
  have hgr := byte_le gr
  go_enter Try.func126, Try.ntmps126
  go_upto_region 5 with (first | (go_at_call 66; (with_reducible refine (LK.out _).mono ?_); rintro e w1 ⟨rfl, hb1⟩; have S1 := Lib.hid (S0.out.below hb1); obtain ⟨b10, b11, b12, b13, b14, b15⟩ := cells6 (S1.out.fr); obtain ⟨b1f0, b1f1, b1f2, b1f3, b1f4, b1f5⟩ := frees6 (S1.out.fr); obtain ⟨z10, z11⟩ := cells2 (S1.out.zr); obtain ⟨z1f0, z1f1⟩ := frees2 (S1.out.zr); clear hb1) | (go_at_call 58; (with_reducible refine (IN.out _).mono ?_); rintro e w2 ⟨rfl, r2, hb2⟩; have R2 := Lib.hid r2; have S2 := Lib.hid (S1.out.below hb2); have hzi : w.heap.size ≠ w1.heap.size := fun e => (by have h9 := (Array.getElem?_eq_some_iff.1 S1.out.zr).1; omega); have hwi : w.heap.size ≤ w1.heap.size := S1.out.on.size; obtain ⟨b20, b21, b22, b23, b24, b25⟩ := cells6 (S2.out.fr); obtain ⟨b2f0, b2f1, b2f2, b2f3, b2f4, b2f5⟩ := frees6 (S2.out.fr); obtain ⟨z20, z21⟩ := cells2 (S2.out.zr); obtain ⟨z2f0, z2f1⟩ := frees2 (S2.out.zr); clear r2 hb2))
  generalize w1.heap.size = ib at *
  generalize hzb : w.heap.size = zb at *
  have HZB := Lib.hid hzb
  clear S1 LK IN hzb hf b1f0 b1f1 b1f2 b1f3 b1f4 b1f5 b10 b11 b12 b13 b14 b15 z1f0 z1f1 z10 z11 a0 a1 a2 a3 a4 a5
  have hfi : fb ≠ ib := by omega
  have hif : ib ≠ fb := by omega
  have hzf : zb ≠ fb := by omega
  have hwz : w.heap.size ≤ zb := Nat.le_of_eq HZB.out
  have hwi : w.heap.size ≤ ib := by omega
  go_upto_region 8 with (first | (go_at_call 108; (with_reducible refine (GR.out _).mono ?_); rintro e w3 ⟨rfl, hb3⟩; have S3 := Lib.hid (S2.out.below hb3); have R3 := Lib.hid (R2.out.below hb3); obtain ⟨b30, b31, b32, b33, b34, b35⟩ := cells6 (S3.out.fr); obtain ⟨b3f0, b3f1, b3f2, b3f3, b3f4, b3f5⟩ := frees6 (S3.out.fr); obtain ⟨z30, z31⟩ := cells2 (S3.out.zr); obtain ⟨z3f0, z3f1⟩ := frees2 (S3.out.zr); clear hb3) | (go_at_call 93; (with_reducible refine (C1.out ib _ R3.out).mono ?_); rintro e w4 ⟨rfl, r4, o4⟩; have R4 := Lib.hid r4; have S4 := Lib.hid (S3.out.read o4 hfi hzi (.inr hwi)); obtain ⟨b40, b41, b42, b43, b44, b45⟩ := cells6 (S4.out.fr); obtain ⟨b4f0, b4f1, b4f2, b4f3, b4f4, b4f5⟩ := frees6 (S4.out.fr); obtain ⟨z40, z41⟩ := cells2 (S4.out.zr); obtain ⟨z4f0, z4f1⟩ := frees2 (S4.out.zr); clear r4 o4) | (go_at_call 98; (with_reducible refine (AT.out ib _ (R4.out.putO hif _)).mono ?_); rintro e w5 ⟨rfl, rfl⟩; skip))
  have R5 := Lib.hid (R4.out.putO hif (.int .u8 gr.toNat) (j := 3))
  have S5 : Hid (ST w (w4.setCell ⟨fb, 3, none⟩ (.int .u8 gr.toNat)) fb fb #[.string ⟨id.toArray⟩, .int .u8 st.toNat, .int .u8 fm.toNat, .int .u8 gr.toNat, .string ⟨[].toArray⟩, .int .i64 pl] 47 zb #[.int .i64 0, .int .i64 0] 31) := Lib.hid (S4.out.put 3 (.int .u8 gr.toNat) hzf (.inl rfl))
  generalize w4.setCell ⟨fb, 3, none⟩ (.int .u8 gr.toNat) = w5 at *
  obtain ⟨b50, b51, b52, b53, b54, b55⟩ := cells6 (S5.out.fr); obtain ⟨b5f0, b5f1, b5f2, b5f3, b5f4, b5f5⟩ := frees6 (S5.out.fr)
  obtain ⟨z50, z51⟩ := cells2 (S5.out.zr); obtain ⟨z5f0, z5f1⟩ := frees2 (S5.out.zr)
  rcases HC with ⟨hc2, rfl, rfl⟩ | ⟨rfl, HC⟩
  · rw [show (c != 0) = true by simpa using hc2] at BD
    go_wp2_with (first | (go_at_call 122; (with_reducible refine (ME.out _).mono ?_); rintro e w6 ⟨rfl, hb6⟩; have S6 := Lib.hid (S5.out.below hb6); have R6 := Lib.hid (R5.out.below hb6); obtain ⟨b60, b61, b62, b63, b64, b65⟩ := cells6 (S6.out.fr); obtain ⟨b6f0, b6f1, b6f2, b6f3, b6f4, b6f5⟩ := frees6 (S6.out.fr); obtain ⟨z60, z61⟩ := cells2 (S6.out.zr); obtain ⟨z6f0, z6f1⟩ := frees2 (S6.out.zr); clear hb6) | (go_at_call 56; (with_reducible refine (FA.out ib _ R6.out).mono ?_); rintro e w8 ⟨rfl, hb8⟩; have S8 := Lib.hid (S6.out.below hb8); have R8 := Lib.hid (R6.out.below hb8); obtain ⟨b80, b81, b82, b83, b84, b85⟩ := cells6 (S8.out.fr); obtain ⟨b8f0, b8f1, b8f2, b8f3, b8f4, b8f5⟩ := frees6 (S8.out.fr); obtain ⟨z80, z81⟩ := cells2 (S8.out.zr); obtain ⟨z8f0, z8f1⟩ := frees2 (S8.out.zr); clear hb8) | (go_at_call 16; (with_reducible refine (BD.out _).mono ?_); rintro e w9 ⟨rfl, hb9⟩; have S9 := Lib.hid ((S8.out.alloc _).below hb9); have R9 := Lib.hid ((R8.out.alloc _).below hb9); obtain ⟨b90, b91, b92, b93, b94, b95⟩ := cells6 (S9.out.fr); obtain ⟨b9f0, b9f1, b9f2, b9f3, b9f4, b9f5⟩ := frees6 (S9.out.fr); obtain ⟨z90, z91⟩ := cells2 (S9.out.zr); obtain ⟨z9f0, z9f1⟩ := frees2 (S9.out.zr); have X9 := block_below (at_a0 w8 _ _) hb9; obtain ⟨x0, x1⟩ := cells2 (X9); clear hb9))
    refine end_cell rfl rfl rfl (store2 S9.out.zr rfl) Try.underlying31 rfl (by kernel_rfl) ⟨rfl, ?_, fun e => absurd e hc2⟩
    exact (S9.out.on.other (Only.set _) (.inr hwz)).other (Only.set _) (.inr hwz)
  rw [show ((0 : Int) != 0) = false by rfl] at BD
  go_upto_region 14 with (first | (go_at_call 122; (with_reducible refine (ME.out _).mono ?_); rintro e w6 ⟨rfl, hb6⟩; have S6 := Lib.hid (S5.out.below hb6); have R6 := Lib.hid (R5.out.below hb6); obtain ⟨b60, b61, b62, b63, b64, b65⟩ := cells6 (S6.out.fr); obtain ⟨b6f0, b6f1, b6f2, b6f3, b6f4, b6f5⟩ := frees6 (S6.out.fr); obtain ⟨z60, z61⟩ := cells2 (S6.out.zr); obtain ⟨z6f0, z6f1⟩ := frees2 (S6.out.zr); clear hb6) | (go_at_call 56; (with_reducible refine (FA.out ib _ R6.out).mono ?_); rintro e w8 ⟨rfl, hb8⟩; have S8 := Lib.hid (S6.out.below hb8); have R8 := Lib.hid (R6.out.below hb8); obtain ⟨b80, b81, b82, b83, b84, b85⟩ := cells6 (S8.out.fr); obtain ⟨b8f0, b8f1, b8f2, b8f3, b8f4, b8f5⟩ := frees6 (S8.out.fr); obtain ⟨z80, z81⟩ := cells2 (S8.out.zr); obtain ⟨z8f0, z8f1⟩ := frees2 (S8.out.zr); clear hb8) | (go_at_call 16; (with_reducible refine (BD.out _).mono ?_); rintro e w9 ⟨rfl, hb9⟩; have S9 := Lib.hid ((S8.out.alloc _).below hb9); have R9 := Lib.hid ((R8.out.alloc _).below hb9); obtain ⟨b90, b91, b92, b93, b94, b95⟩ := cells6 (S9.out.fr); obtain ⟨b9f0, b9f1, b9f2, b9f3, b9f4, b9f5⟩ := frees6 (S9.out.fr); obtain ⟨z90, z91⟩ := cells2 (S9.out.zr); obtain ⟨z9f0, z9f1⟩ := frees2 (S9.out.zr); have X9 := block_below (at_a0 w8 _ _) hb9; obtain ⟨x0, x1⟩ := cells2 (X9); clear hb9) | (go_at_call 62; (with_reducible refine (RE.out ib _ R9.out).mono ?_); rintro e w10 ⟨rfl, r10, o10⟩; have R10 := Lib.hid r10; have S10 := Lib.hid (S9.out.read o10 hfi hzi (.inr hwi)); obtain ⟨b100, b101, b102, b103, b104, b105⟩ := cells6 (S10.out.fr); obtain ⟨b10f0, b10f1, b10f2, b10f3, b10f4, b10f5⟩ := frees6 (S10.out.fr); obtain ⟨z100, z101⟩ := cells2 (S10.out.zr); obtain ⟨z10f0, z10f1⟩ := frees2 (S10.out.zr); clear r10 o10))
  have S11 : Hid (ST w (w10.setCell ⟨fb, 4, none⟩ (.string ⟨bo.toArray⟩)) fb fb #[.string ⟨id.toArray⟩, .int .u8 st.toNat, .int .u8 fm.toNat, .int .u8 gr.toNat, .string ⟨bo.toArray⟩, .int .i64 pl] 47 zb #[.int .i64 0, .int .i64 0] 31) := Lib.hid (S10.out.put 4 (.string ⟨bo.toArray⟩) hzf (.inl rfl))
  generalize w10.setCell ⟨fb, 4, none⟩ (.string ⟨bo.toArray⟩) = w11 at *
  obtain ⟨b110, b111, b112, b113, b114, b115⟩ := cells6 (S11.out.fr); obtain ⟨b11f0, b11f1, b11f2, b11f3, b11f4, b11f5⟩ := frees6 (S11.out.fr)
  obtain ⟨z110, z111⟩ := cells2 (S11.out.zr); obtain ⟨z11f0, z11f1⟩ := frees2 (S11.out.zr)
  obtain ⟨rfl, rfl⟩ := HC
  go_wp2_with (first | (go_at_call 24; (with_reducible refine (SP.out _).mono ?_); rintro e w12 ⟨rfl, hb12⟩; have S12 := Lib.hid (S11.out.below hb12); obtain ⟨b120, b121, b122, b123, b124, b125⟩ := cells6 (S12.out.fr); obtain ⟨b12f0, b12f1, b12f2, b12f3, b12f4, b12f5⟩ := frees6 (S12.out.fr); obtain ⟨z120, z121⟩ := cells2 (S12.out.zr); obtain ⟨z12f0, z12f1⟩ := frees2 (S12.out.zr); clear hb12) | (go_at_call 122; (with_reducible refine (ME.out _).mono ?_); rintro e w15 ⟨rfl, hb15⟩; have S15 := Lib.hid (S12.out.below hb15); obtain ⟨b150, b151, b152, b153, b154, b155⟩ := cells6 (S15.out.fr); obtain ⟨b15f0, b15f1, b15f2, b15f3, b15f4, b15f5⟩ := frees6 (S15.out.fr); obtain ⟨z150, z151⟩ := cells2 (S15.out.zr); obtain ⟨z15f0, z15f1⟩ := frees2 (S15.out.zr); clear hb15))
  refine end_cell rfl rfl rfl (store2 S15.out.zr rfl) Try.underlying31 rfl (by kernel_rfl) (FillSays.mk rfl ?_ ?_)
  · exact (S15.out.on.other (Only.set _) (.inr hwz)).other (Only.set _) (.inr hwz)
  · exact (heap_set_other _ (fun e => hzf e.symm)).trans ((heap_set_other _ (fun e => hzf e.symm)).trans S15.out.fr)
set_option maxHeartbeats 4000000 in
set_option maxRecDepth 100000 in
theorem fill_011 (v : Int) (fb : Nat) (id : List UInt8) (st fm gr : UInt8) (data bo0 bo : List UInt8) (pl at0 c2 p2 p1 me c p : Int) (m0 m1 m2 m3 : Rd) (w : World) (hf : w.heap[fb]? = some (.cells (frC id st fm 0 [] pl) 47 (0, 0)))
    (LK : Hid (∀ w, Calls Try.prog 66 #[hdV id st fm, .int .i64 v] w fun e w' => e = .returned (.bool false) ∧ Below w.heap.size w w'))
    (GR : Hid (∀ w, Calls Try.prog 108 #[hdV id st fm, .int .i64 v] w fun e w' => e = .returned (.bool false) ∧ Below w.heap.size w w'))
    (ME : Hid (∀ w, Calls Try.prog 122 #[hdV id st fm, .int .i64 v] w fun e w' => e = .returned (.bool true) ∧ Below w.heap.size w w'))
    (SP : Hid (∀ w, Calls Try.prog 24 #[hdV id st fm, .int .i64 v] w fun e w' => e = .returned (.bool true) ∧ Below w.heap.size w w'))
    (IN : Hid (∀ w, Calls Try.prog 58 #[.string ⟨data.toArray⟩, .int .i64 at0] w fun e w' => e = .returned (.pointer (some ⟨w.heap.size, 0, none⟩)) ∧ RdAt w' w.heap.size m0 ∧ Below w.heap.size w w'))
    (E1 : m1 = m0) (G1 : gr = 0)
    (AT : Hid (∀ ib w, RdAt w ib m1 → Calls Try.prog 98 #[.pointer (some ⟨ib, 0, none⟩)] w fun e w' => e = .returned (.int .i64 p1) ∧ w = w'))
    (SF : Hid (∀ ib w, RdAt w ib m1 → Calls Try.prog 55 #[.pointer (some ⟨ib, 0, none⟩)] w fun e w' => e = .returned (.int .i64 me) ∧ RdAt w' ib m2 ∧ Only ib w w'))
    (FA : Hid (∀ ib w, RdAt w ib m2 → Calls Try.prog 56 #[.pointer (some ⟨ib, 0, none⟩)] w fun e w' => e = .returned (.agg #[.int .i64 c2, .int .i64 p2]) ∧ Below w.heap.size w w'))
    (RE : Hid (∀ ib w, RdAt w ib m2 → Calls Try.prog 62 #[.pointer (some ⟨ib, 0, none⟩)] w fun e w' => e = .returned (.string ⟨bo0.toArray⟩) ∧ RdAt w' ib m3 ∧ Only ib w w'))
    (DR : Hid (∀ w, Calls Try.prog 45 #[.string ⟨bo0.toArray⟩] w fun e w' => e = .returned (.string ⟨bo.toArray⟩) ∧ Below w.heap.size w w'))
    (HC : (c2 ≠ 0 ∧ c = c2 ∧ p = p2) ∨ (c2 = 0 ∧ ((me ≠ bo.length ∧ c = 1 ∧ p = p1) ∨ (me = bo.length ∧ c = 0 ∧ p = 0))))
    : Calls Try.prog 126 #[.pointer (some ⟨fb, 0, none⟩), .int .i64 v, .string ⟨data.toArray⟩, .int .i64 at0] w (FillSays fb id st fm gr bo pl c p w) := by
  subst E1 G1
  unfold frC hdV at *
  have hlt : fb < w.heap.size := (Array.getElem?_eq_some_iff.1 hf).1
  have S0 : Hid (ST w (w.alloc (.cells #[.int .i64 0, .int .i64 0] 31)) fb fb _ 47 w.heap.size _ 31) := Lib.hid ⟨block_below hf ((Below.refl _ _).alloc (Nat.le_refl _) _), at_a0 _ _ _, Only.of_below ((Below.refl _ _).alloc (Nat.le_refl _) _)⟩
  obtain ⟨a0, a1, a2, a3, a4, a5⟩ := cells6 (hf)
  have BD := Lib.hid (fun w => bad_any c2 p2 w)
  go_enter Try.func126, Try.ntmps126
  go_upto_region 5 with (first | (go_at_call 66; (with_reducible refine (LK.out _).mono ?_); rintro e w1 ⟨rfl, hb1⟩; have S1 := Lib.hid (S0.out.below hb1); obtain ⟨b10, b11, b12, b13, b14, b15⟩ := cells6 (S1.out.fr); obtain ⟨b1f0, b1f1, b1f2, b1f3, b1f4, b1f5⟩ := frees6 (S1.out.fr); obtain ⟨z10, z11⟩ := cells2 (S1.out.zr); obtain ⟨z1f0, z1f1⟩ := frees2 (S1.out.zr); clear hb1) | (go_at_call 58; (with_reducible refine (IN.out _).mono ?_); rintro e w2 ⟨rfl, r2, hb2⟩; have R2 := Lib.hid r2; have S2 := Lib.hid (S1.out.below hb2); have hzi : w.heap.size ≠ w1.heap.size := fun e => (by have h9 := (Array.getElem?_eq_some_iff.1 S1.out.zr).1; omega); have hwi : w.heap.size ≤ w1.heap.size := S1.out.on.size; obtain ⟨b20, b21, b22, b23, b24, b25⟩ := cells6 (S2.out.fr); obtain ⟨b2f0, b2f1, b2f2, b2f3, b2f4, b2f5⟩ := frees6 (S2.out.fr); obtain ⟨z20, z21⟩ := cells2 (S2.out.zr); obtain ⟨z2f0, z2f1⟩ := frees2 (S2.out.zr); clear r2 hb2))
  generalize w1.heap.size = ib at *
  generalize hzb : w.heap.size = zb at *
  have HZB := Lib.hid hzb
  clear S1 LK IN hzb hf b1f0 b1f1 b1f2 b1f3 b1f4 b1f5 b10 b11 b12 b13 b14 b15 z1f0 z1f1 z10 z11 a0 a1 a2 a3 a4 a5
  have hfi : fb ≠ ib := by omega
  have hif : ib ≠ fb := by omega
  have hzf : zb ≠ fb := by omega
  have hwz : w.heap.size ≤ zb := Nat.le_of_eq HZB.out
  have hwi : w.heap.size ≤ ib := by omega
  go_upto_region 8 with (first | (go_at_call 108; (with_reducible refine (GR.out _).mono ?_); rintro e w3 ⟨rfl, hb3⟩; have S3 := Lib.hid (S2.out.below hb3); have R3 := Lib.hid (R2.out.below hb3); obtain ⟨b30, b31, b32, b33, b34, b35⟩ := cells6 (S3.out.fr); obtain ⟨b3f0, b3f1, b3f2, b3f3, b3f4, b3f5⟩ := frees6 (S3.out.fr); obtain ⟨z30, z31⟩ := cells2 (S3.out.zr); obtain ⟨z3f0, z3f1⟩ := frees2 (S3.out.zr); clear hb3) | (go_at_call 98; (with_reducible refine (AT.out ib _ R3.out).mono ?_); rintro e w5 ⟨rfl, rfl⟩; have S5 := S3; have R5 := R3))
  rcases HC with ⟨hc2, rfl, rfl⟩ | ⟨rfl, HC⟩
  · rw [show (c != 0) = true by simpa using hc2] at BD
    go_wp2_with (first | (go_at_call 122; (with_reducible refine (ME.out _).mono ?_); rintro e w6 ⟨rfl, hb6⟩; have S6 := Lib.hid (S5.out.below hb6); have R6 := Lib.hid (R5.out.below hb6); obtain ⟨b60, b61, b62, b63, b64, b65⟩ := cells6 (S6.out.fr); obtain ⟨b6f0, b6f1, b6f2, b6f3, b6f4, b6f5⟩ := frees6 (S6.out.fr); obtain ⟨z60, z61⟩ := cells2 (S6.out.zr); obtain ⟨z6f0, z6f1⟩ := frees2 (S6.out.zr); clear hb6) | (go_at_call 55; (with_reducible refine (SF.out ib _ R6.out).mono ?_); rintro e w7 ⟨rfl, r7, o7⟩; have R7 := Lib.hid r7; have S7 := Lib.hid (S6.out.read o7 hfi hzi (.inr hwi)); obtain ⟨b70, b71, b72, b73, b74, b75⟩ := cells6 (S7.out.fr); obtain ⟨b7f0, b7f1, b7f2, b7f3, b7f4, b7f5⟩ := frees6 (S7.out.fr); obtain ⟨z70, z71⟩ := cells2 (S7.out.zr); obtain ⟨z7f0, z7f1⟩ := frees2 (S7.out.zr); clear r7 o7) | (go_at_call 56; (with_reducible refine (FA.out ib _ R7.out).mono ?_); rintro e w8 ⟨rfl, hb8⟩; have S8 := Lib.hid (S7.out.below hb8); have R8 := Lib.hid (R7.out.below hb8); obtain ⟨b80, b81, b82, b83, b84, b85⟩ := cells6 (S8.out.fr); obtain ⟨b8f0, b8f1, b8f2, b8f3, b8f4, b8f5⟩ := frees6 (S8.out.fr); obtain ⟨z80, z81⟩ := cells2 (S8.out.zr); obtain ⟨z8f0, z8f1⟩ := frees2 (S8.out.zr); clear hb8) | (go_at_call 16; (with_reducible refine (BD.out _).mono ?_); rintro e w9 ⟨rfl, hb9⟩; have S9 := Lib.hid ((S8.out.alloc _).below hb9); have R9 := Lib.hid ((R8.out.alloc _).below hb9); obtain ⟨b90, b91, b92, b93, b94, b95⟩ := cells6 (S9.out.fr); obtain ⟨b9f0, b9f1, b9f2, b9f3, b9f4, b9f5⟩ := frees6 (S9.out.fr); obtain ⟨z90, z91⟩ := cells2 (S9.out.zr); obtain ⟨z9f0, z9f1⟩ := frees2 (S9.out.zr); have X9 := block_below (at_a0 w8 _ _) hb9; obtain ⟨x0, x1⟩ := cells2 (X9); clear hb9))
    refine end_cell rfl rfl rfl (store2 S9.out.zr rfl) Try.underlying31 rfl (by kernel_rfl) ⟨rfl, ?_, fun e => absurd e hc2⟩
    exact (S9.out.on.other (Only.set _) (.inr hwz)).other (Only.set _) (.inr hwz)
  rw [show ((0 : Int) != 0) = false by rfl] at BD
  go_upto_region 14 with (first | (go_at_call 122; (with_reducible refine (ME.out _).mono ?_); rintro e w6 ⟨rfl, hb6⟩; have S6 := Lib.hid (S5.out.below hb6); have R6 := Lib.hid (R5.out.below hb6); obtain ⟨b60, b61, b62, b63, b64, b65⟩ := cells6 (S6.out.fr); obtain ⟨b6f0, b6f1, b6f2, b6f3, b6f4, b6f5⟩ := frees6 (S6.out.fr); obtain ⟨z60, z61⟩ := cells2 (S6.out.zr); obtain ⟨z6f0, z6f1⟩ := frees2 (S6.out.zr); clear hb6) | (go_at_call 55; (with_reducible refine (SF.out ib _ R6.out).mono ?_); rintro e w7 ⟨rfl, r7, o7⟩; have R7 := Lib.hid r7; have S7 := Lib.hid (S6.out.read o7 hfi hzi (.inr hwi)); obtain ⟨b70, b71, b72, b73, b74, b75⟩ := cells6 (S7.out.fr); obtain ⟨b7f0, b7f1, b7f2, b7f3, b7f4, b7f5⟩ := frees6 (S7.out.fr); obtain ⟨z70, z71⟩ := cells2 (S7.out.zr); obtain ⟨z7f0, z7f1⟩ := frees2 (S7.out.zr); clear r7 o7) | (go_at_call 56; (with_reducible refine (FA.out ib _ R7.out).mono ?_); rintro e w8 ⟨rfl, hb8⟩; have S8 := Lib.hid (S7.out.below hb8); have R8 := Lib.hid (R7.out.below hb8); obtain ⟨b80, b81, b82, b83, b84, b85⟩ := cells6 (S8.out.fr); obtain ⟨b8f0, b8f1, b8f2, b8f3, b8f4, b8f5⟩ := frees6 (S8.out.fr); obtain ⟨z80, z81⟩ := cells2 (S8.out.zr); obtain ⟨z8f0, z8f1⟩ := frees2 (S8.out.zr); clear hb8) | (go_at_call 16; (with_reducible refine (BD.out _).mono ?_); rintro e w9 ⟨rfl, hb9⟩; have S9 := Lib.hid ((S8.out.alloc _).below hb9); have R9 := Lib.hid ((R8.out.alloc _).below hb9); obtain ⟨b90, b91, b92, b93, b94, b95⟩ := cells6 (S9.out.fr); obtain ⟨b9f0, b9f1, b9f2, b9f3, b9f4, b9f5⟩ := frees6 (S9.out.fr); obtain ⟨z90, z91⟩ := cells2 (S9.out.zr); obtain ⟨z9f0, z9f1⟩ := frees2 (S9.out.zr); have X9 := block_below (at_a0 w8 _ _) hb9; obtain ⟨x0, x1⟩ := cells2 (X9); clear hb9) | (go_at_call 62; (with_reducible refine (RE.out ib _ R9.out).mono ?_); rintro e w10 ⟨rfl, r10, o10⟩; have R10 := Lib.hid r10; have S10 := Lib.hid (S9.out.read o10 hfi hzi (.inr hwi)); obtain ⟨b100, b101, b102, b103, b104, b105⟩ := cells6 (S10.out.fr); obtain ⟨b10f0, b10f1, b10f2, b10f3, b10f4, b10f5⟩ := frees6 (S10.out.fr); obtain ⟨z100, z101⟩ := cells2 (S10.out.zr); obtain ⟨z10f0, z10f1⟩ := frees2 (S10.out.zr); clear r10 o10))
  have S11 : Hid (ST w (w10.setCell ⟨fb, 4, none⟩ (.string ⟨bo0.toArray⟩)) fb fb #[.string ⟨id.toArray⟩, .int .u8 st.toNat, .int .u8 fm.toNat, .int .u8 (0 : UInt8).toNat, .string ⟨bo0.toArray⟩, .int .i64 pl] 47 zb #[.int .i64 0, .int .i64 0] 31) := Lib.hid (S10.out.put 4 (.string ⟨bo0.toArray⟩) hzf (.inl rfl))
  generalize w10.setCell ⟨fb, 4, none⟩ (.string ⟨bo0.toArray⟩) = w11 at *
  obtain ⟨b110, b111, b112, b113, b114, b115⟩ := cells6 (S11.out.fr); obtain ⟨b11f0, b11f1, b11f2, b11f3, b11f4, b11f5⟩ := frees6 (S11.out.fr)
  obtain ⟨z110, z111⟩ := cells2 (S11.out.zr); obtain ⟨z11f0, z11f1⟩ := frees2 (S11.out.zr)
  rcases HC with ⟨hme, rfl, rfl⟩ | ⟨hme, rfl, rfl⟩
  · have t1 : (me != (bo.length : Int)) = true := by simpa using hme
    go_wp2_with (first | (go_at_call 24; (with_reducible refine (SP.out _).mono ?_); rintro e w12 ⟨rfl, hb12⟩; have S12 := Lib.hid (S11.out.below hb12); obtain ⟨b120, b121, b122, b123, b124, b125⟩ := cells6 (S12.out.fr); obtain ⟨b12f0, b12f1, b12f2, b12f3, b12f4, b12f5⟩ := frees6 (S12.out.fr); obtain ⟨z120, z121⟩ := cells2 (S12.out.zr); obtain ⟨z12f0, z12f1⟩ := frees2 (S12.out.zr); clear hb12) | (go_at_call 45; (with_reducible refine (DR.out _).mono ?_); rintro e w13 ⟨rfl, hb13⟩; have S13 := Lib.hid (S12.out.below hb13); obtain ⟨b130, b131, b132, b133, b134, b135⟩ := cells6 (S13.out.fr); obtain ⟨b13f0, b13f1, b13f2, b13f3, b13f4, b13f5⟩ := frees6 (S13.out.fr); obtain ⟨z130, z131⟩ := cells2 (S13.out.zr); obtain ⟨z13f0, z13f1⟩ := frees2 (S13.out.zr); clear hb13) | (go_at_call 122; (with_reducible refine (ME.out _).mono ?_); rintro e w15 ⟨rfl, hb15⟩; have S15 : Hid (ST w w15 fb fb #[.string ⟨id.toArray⟩, .int .u8 st.toNat, .int .u8 fm.toNat, .int .u8 (0 : UInt8).toNat, .string ⟨bo.toArray⟩, .int .i64 pl] 47 zb #[.int .i64 0, .int .i64 0] 31) := Lib.hid ((S13.out.put 4 (.string ⟨bo.toArray⟩) hzf (.inl rfl)).below hb15); obtain ⟨b150, b151, b152, b153, b154, b155⟩ := cells6 (S15.out.fr); obtain ⟨b15f0, b15f1, b15f2, b15f3, b15f4, b15f5⟩ := frees6 (S15.out.fr); obtain ⟨z150, z151⟩ := cells2 (S15.out.zr); obtain ⟨z15f0, z15f1⟩ := frees2 (S15.out.zr); clear hb15))
    refine end_cell rfl rfl rfl (store2 S15.out.zr rfl) Try.underlying31 rfl (by kernel_rfl) (FillSays.mk rfl ?_ ?_)
    · exact (S15.out.on.other (Only.set _) (.inr hwz)).other (Only.set _) (.inr hwz)
    · exact (heap_set_other _ (fun e => hzf e.symm)).trans ((heap_set_other _ (fun e => hzf e.symm)).trans S15.out.fr)
  · have t1 : (me != (bo.length : Int)) = false := by simpa using hme
    go_wp2_with (first | (go_at_call 24; (with_reducible refine (SP.out _).mono ?_); rintro e w12 ⟨rfl, hb12⟩; have S12 := Lib.hid (S11.out.below hb12); obtain ⟨b120, b121, b122, b123, b124, b125⟩ := cells6 (S12.out.fr); obtain ⟨b12f0, b12f1, b12f2, b12f3, b12f4, b12f5⟩ := frees6 (S12.out.fr); obtain ⟨z120, z121⟩ := cells2 (S12.out.zr); obtain ⟨z12f0, z12f1⟩ := frees2 (S12.out.zr); clear hb12) | (go_at_call 45; (with_reducible refine (DR.out _).mono ?_); rintro e w13 ⟨rfl, hb13⟩; have S13 := Lib.hid (S12.out.below hb13); obtain ⟨b130, b131, b132, b133, b134, b135⟩ := cells6 (S13.out.fr); obtain ⟨b13f0, b13f1, b13f2, b13f3, b13f4, b13f5⟩ := frees6 (S13.out.fr); obtain ⟨z130, z131⟩ := cells2 (S13.out.zr); obtain ⟨z13f0, z13f1⟩ := frees2 (S13.out.zr); clear hb13) | (go_at_call 122; (with_reducible refine (ME.out _).mono ?_); rintro e w15 ⟨rfl, hb15⟩; have S15 : Hid (ST w w15 fb fb #[.string ⟨id.toArray⟩, .int .u8 st.toNat, .int .u8 fm.toNat, .int .u8 (0 : UInt8).toNat, .string ⟨bo.toArray⟩, .int .i64 pl] 47 zb #[.int .i64 0, .int .i64 0] 31) := Lib.hid ((S13.out.put 4 (.string ⟨bo.toArray⟩) hzf (.inl rfl)).below hb15); obtain ⟨b150, b151, b152, b153, b154, b155⟩ := cells6 (S15.out.fr); obtain ⟨b15f0, b15f1, b15f2, b15f3, b15f4, b15f5⟩ := frees6 (S15.out.fr); obtain ⟨z150, z151⟩ := cells2 (S15.out.zr); obtain ⟨z15f0, z15f1⟩ := frees2 (S15.out.zr); clear hb15))
    refine end_cell rfl rfl rfl (store2 S15.out.zr rfl) Try.underlying31 rfl (by kernel_rfl) (FillSays.mk rfl ?_ ?_)
    · exact (S15.out.on.other (Only.set _) (.inr hwz)).other (Only.set _) (.inr hwz)
    · exact (heap_set_other _ (fun e => hzf e.symm)).trans ((heap_set_other _ (fun e => hzf e.symm)).trans S15.out.fr)
set_option maxHeartbeats 4000000 in
set_option maxRecDepth 100000 in
theorem fill_010 (v : Int) (fb : Nat) (id : List UInt8) (st fm gr : UInt8) (data bo0 bo : List UInt8) (pl at0 c2 p2 p1 me c p : Int) (m0 m1 m2 m3 : Rd) (w : World) (hf : w.heap[fb]? = some (.cells (frC id st fm 0 [] pl) 47 (0, 0)))
    (LK : Hid (∀ w, Calls Try.prog 66 #[hdV id st fm, .int .i64 v] w fun e w' => e = .returned (.bool false) ∧ Below w.heap.size w w'))
    (GR : Hid (∀ w, Calls Try.prog 108 #[hdV id st fm, .int .i64 v] w fun e w' => e = .returned (.bool false) ∧ Below w.heap.size w w'))
    (ME : Hid (∀ w, Calls Try.prog 122 #[hdV id st fm, .int .i64 v] w fun e w' => e = .returned (.bool true) ∧ Below w.heap.size w w'))
    (SP : Hid (∀ w, Calls Try.prog 24 #[hdV id st fm, .int .i64 v] w fun e w' => e = .returned (.bool false) ∧ Below w.heap.size w w'))
    (IN : Hid (∀ w, Calls Try.prog 58 #[.string ⟨data.toArray⟩, .int .i64 at0] w fun e w' => e = .returned (.pointer (some ⟨w.heap.size, 0, none⟩)) ∧ RdAt w' w.heap.size m0 ∧ Below w.heap.size w w'))
    (E1 : m1 = m0) (G1 : gr = 0)
    (AT : Hid (∀ ib w, RdAt w ib m1 → Calls Try.prog 98 #[.pointer (some ⟨ib, 0, none⟩)] w fun e w' => e = .returned (.int .i64 p1) ∧ w = w'))
    (SF : Hid (∀ ib w, RdAt w ib m1 → Calls Try.prog 55 #[.pointer (some ⟨ib, 0, none⟩)] w fun e w' => e = .returned (.int .i64 me) ∧ RdAt w' ib m2 ∧ Only ib w w'))
    (FA : Hid (∀ ib w, RdAt w ib m2 → Calls Try.prog 56 #[.pointer (some ⟨ib, 0, none⟩)] w fun e w' => e = .returned (.agg #[.int .i64 c2, .int .i64 p2]) ∧ Below w.heap.size w w'))
    (RE : Hid (∀ ib w, RdAt w ib m2 → Calls Try.prog 62 #[.pointer (some ⟨ib, 0, none⟩)] w fun e w' => e = .returned (.string ⟨bo0.toArray⟩) ∧ RdAt w' ib m3 ∧ Only ib w w'))
    (E3 : bo = bo0)
    (HC : (c2 ≠ 0 ∧ c = c2 ∧ p = p2) ∨ (c2 = 0 ∧ ((me ≠ bo.length ∧ c = 1 ∧ p = p1) ∨ (me = bo.length ∧ c = 0 ∧ p = 0))))
    : Calls Try.prog 126 #[.pointer (some ⟨fb, 0, none⟩), .int .i64 v, .string ⟨data.toArray⟩, .int .i64 at0] w (FillSays fb id st fm gr bo pl c p w) := by
  subst E1 G1
  subst E3
  unfold frC hdV at *
  have hlt : fb < w.heap.size := (Array.getElem?_eq_some_iff.1 hf).1
  have S0 : Hid (ST w (w.alloc (.cells #[.int .i64 0, .int .i64 0] 31)) fb fb _ 47 w.heap.size _ 31) := Lib.hid ⟨block_below hf ((Below.refl _ _).alloc (Nat.le_refl _) _), at_a0 _ _ _, Only.of_below ((Below.refl _ _).alloc (Nat.le_refl _) _)⟩
  obtain ⟨a0, a1, a2, a3, a4, a5⟩ := cells6 (hf)
  have BD := Lib.hid (fun w => bad_any c2 p2 w)
  go_enter Try.func126, Try.ntmps126
  go_upto_region 5 with (first | (go_at_call 66; (with_reducible refine (LK.out _).mono ?_); rintro e w1 ⟨rfl, hb1⟩; have S1 := Lib.hid (S0.out.below hb1); obtain ⟨b10, b11, b12, b13, b14, b15⟩ := cells6 (S1.out.fr); obtain ⟨b1f0, b1f1, b1f2, b1f3, b1f4, b1f5⟩ := frees6 (S1.out.fr); obtain ⟨z10, z11⟩ := cells2 (S1.out.zr); obtain ⟨z1f0, z1f1⟩ := frees2 (S1.out.zr); clear hb1) | (go_at_call 58; (with_reducible refine (IN.out _).mono ?_); rintro e w2 ⟨rfl, r2, hb2⟩; have R2 := Lib.hid r2; have S2 := Lib.hid (S1.out.below hb2); have hzi : w.heap.size ≠ w1.heap.size := fun e => (by have h9 := (Array.getElem?_eq_some_iff.1 S1.out.zr).1; omega); have hwi : w.heap.size ≤ w1.heap.size := S1.out.on.size; obtain ⟨b20, b21, b22, b23, b24, b25⟩ := cells6 (S2.out.fr); obtain ⟨b2f0, b2f1, b2f2, b2f3, b2f4, b2f5⟩ := frees6 (S2.out.fr); obtain ⟨z20, z21⟩ := cells2 (S2.out.zr); obtain ⟨z2f0, z2f1⟩ := frees2 (S2.out.zr); clear r2 hb2))
  generalize w1.heap.size = ib at *
  generalize hzb : w.heap.size = zb at *
  have HZB := Lib.hid hzb
  clear S1 LK IN hzb hf b1f0 b1f1 b1f2 b1f3 b1f4 b1f5 b10 b11 b12 b13 b14 b15 z1f0 z1f1 z10 z11 a0 a1 a2 a3 a4 a5
  have hfi : fb ≠ ib := by omega
  have hif : ib ≠ fb := by omega
  have hzf : zb ≠ fb := by omega
  have hwz : w.heap.size ≤ zb := Nat.le_of_eq HZB.out
  have hwi : w.heap.size ≤ ib := by omega
  go_upto_region 8 with (first | (go_at_call 108; (with_reducible refine (GR.out _).mono ?_); rintro e w3 ⟨rfl, hb3⟩; have S3 := Lib.hid (S2.out.below hb3); have R3 := Lib.hid (R2.out.below hb3); obtain ⟨b30, b31, b32, b33, b34, b35⟩ := cells6 (S3.out.fr); obtain ⟨b3f0, b3f1, b3f2, b3f3, b3f4, b3f5⟩ := frees6 (S3.out.fr); obtain ⟨z30, z31⟩ := cells2 (S3.out.zr); obtain ⟨z3f0, z3f1⟩ := frees2 (S3.out.zr); clear hb3) | (go_at_call 98; (with_reducible refine (AT.out ib _ R3.out).mono ?_); rintro e w5 ⟨rfl, rfl⟩; have S5 := S3; have R5 := R3))
  rcases HC with ⟨hc2, rfl, rfl⟩ | ⟨rfl, HC⟩
  · rw [show (c != 0) = true by simpa using hc2] at BD
    go_wp2_with (first | (go_at_call 122; (with_reducible refine (ME.out _).mono ?_); rintro e w6 ⟨rfl, hb6⟩; have S6 := Lib.hid (S5.out.below hb6); have R6 := Lib.hid (R5.out.below hb6); obtain ⟨b60, b61, b62, b63, b64, b65⟩ := cells6 (S6.out.fr); obtain ⟨b6f0, b6f1, b6f2, b6f3, b6f4, b6f5⟩ := frees6 (S6.out.fr); obtain ⟨z60, z61⟩ := cells2 (S6.out.zr); obtain ⟨z6f0, z6f1⟩ := frees2 (S6.out.zr); clear hb6) | (go_at_call 55; (with_reducible refine (SF.out ib _ R6.out).mono ?_); rintro e w7 ⟨rfl, r7, o7⟩; have R7 := Lib.hid r7; have S7 := Lib.hid (S6.out.read o7 hfi hzi (.inr hwi)); obtain ⟨b70, b71, b72, b73, b74, b75⟩ := cells6 (S7.out.fr); obtain ⟨b7f0, b7f1, b7f2, b7f3, b7f4, b7f5⟩ := frees6 (S7.out.fr); obtain ⟨z70, z71⟩ := cells2 (S7.out.zr); obtain ⟨z7f0, z7f1⟩ := frees2 (S7.out.zr); clear r7 o7) | (go_at_call 56; (with_reducible refine (FA.out ib _ R7.out).mono ?_); rintro e w8 ⟨rfl, hb8⟩; have S8 := Lib.hid (S7.out.below hb8); have R8 := Lib.hid (R7.out.below hb8); obtain ⟨b80, b81, b82, b83, b84, b85⟩ := cells6 (S8.out.fr); obtain ⟨b8f0, b8f1, b8f2, b8f3, b8f4, b8f5⟩ := frees6 (S8.out.fr); obtain ⟨z80, z81⟩ := cells2 (S8.out.zr); obtain ⟨z8f0, z8f1⟩ := frees2 (S8.out.zr); clear hb8) | (go_at_call 16; (with_reducible refine (BD.out _).mono ?_); rintro e w9 ⟨rfl, hb9⟩; have S9 := Lib.hid ((S8.out.alloc _).below hb9); have R9 := Lib.hid ((R8.out.alloc _).below hb9); obtain ⟨b90, b91, b92, b93, b94, b95⟩ := cells6 (S9.out.fr); obtain ⟨b9f0, b9f1, b9f2, b9f3, b9f4, b9f5⟩ := frees6 (S9.out.fr); obtain ⟨z90, z91⟩ := cells2 (S9.out.zr); obtain ⟨z9f0, z9f1⟩ := frees2 (S9.out.zr); have X9 := block_below (at_a0 w8 _ _) hb9; obtain ⟨x0, x1⟩ := cells2 (X9); clear hb9))
    refine end_cell rfl rfl rfl (store2 S9.out.zr rfl) Try.underlying31 rfl (by kernel_rfl) ⟨rfl, ?_, fun e => absurd e hc2⟩
    exact (S9.out.on.other (Only.set _) (.inr hwz)).other (Only.set _) (.inr hwz)
  rw [show ((0 : Int) != 0) = false by rfl] at BD
  go_upto_region 14 with (first | (go_at_call 122; (with_reducible refine (ME.out _).mono ?_); rintro e w6 ⟨rfl, hb6⟩; have S6 := Lib.hid (S5.out.below hb6); have R6 := Lib.hid (R5.out.below hb6); obtain ⟨b60, b61, b62, b63, b64, b65⟩ := cells6 (S6.out.fr); obtain ⟨b6f0, b6f1, b6f2, b6f3, b6f4, b6f5⟩ := frees6 (S6.out.fr); obtain ⟨z60, z61⟩ := cells2 (S6.out.zr); obtain ⟨z6f0, z6f1⟩ := frees2 (S6.out.zr); clear hb6) | (go_at_call 55; (with_reducible refine (SF.out ib _ R6.out).mono ?_); rintro e w7 ⟨rfl, r7, o7⟩; have R7 := Lib.hid r7; have S7 := Lib.hid (S6.out.read o7 hfi hzi (.inr hwi)); obtain ⟨b70, b71, b72, b73, b74, b75⟩ := cells6 (S7.out.fr); obtain ⟨b7f0, b7f1, b7f2, b7f3, b7f4, b7f5⟩ := frees6 (S7.out.fr); obtain ⟨z70, z71⟩ := cells2 (S7.out.zr); obtain ⟨z7f0, z7f1⟩ := frees2 (S7.out.zr); clear r7 o7) | (go_at_call 56; (with_reducible refine (FA.out ib _ R7.out).mono ?_); rintro e w8 ⟨rfl, hb8⟩; have S8 := Lib.hid (S7.out.below hb8); have R8 := Lib.hid (R7.out.below hb8); obtain ⟨b80, b81, b82, b83, b84, b85⟩ := cells6 (S8.out.fr); obtain ⟨b8f0, b8f1, b8f2, b8f3, b8f4, b8f5⟩ := frees6 (S8.out.fr); obtain ⟨z80, z81⟩ := cells2 (S8.out.zr); obtain ⟨z8f0, z8f1⟩ := frees2 (S8.out.zr); clear hb8) | (go_at_call 16; (with_reducible refine (BD.out _).mono ?_); rintro e w9 ⟨rfl, hb9⟩; have S9 := Lib.hid ((S8.out.alloc _).below hb9); have R9 := Lib.hid ((R8.out.alloc _).below hb9); obtain ⟨b90, b91, b92, b93, b94, b95⟩ := cells6 (S9.out.fr); obtain ⟨b9f0, b9f1, b9f2, b9f3, b9f4, b9f5⟩ := frees6 (S9.out.fr); obtain ⟨z90, z91⟩ := cells2 (S9.out.zr); obtain ⟨z9f0, z9f1⟩ := frees2 (S9.out.zr); have X9 := block_below (at_a0 w8 _ _) hb9; obtain ⟨x0, x1⟩ := cells2 (X9); clear hb9) | (go_at_call 62; (with_reducible refine (RE.out ib _ R9.out).mono ?_); rintro e w10 ⟨rfl, r10, o10⟩; have R10 := Lib.hid r10; have S10 := Lib.hid (S9.out.read o10 hfi hzi (.inr hwi)); obtain ⟨b100, b101, b102, b103, b104, b105⟩ := cells6 (S10.out.fr); obtain ⟨b10f0, b10f1, b10f2, b10f3, b10f4, b10f5⟩ := frees6 (S10.out.fr); obtain ⟨z100, z101⟩ := cells2 (S10.out.zr); obtain ⟨z10f0, z10f1⟩ := frees2 (S10.out.zr); clear r10 o10))
  have S11 : Hid (ST w (w10.setCell ⟨fb, 4, none⟩ (.string ⟨bo.toArray⟩)) fb fb #[.string ⟨id.toArray⟩, .int .u8 st.toNat, .int .u8 fm.toNat, .int .u8 (0 : UInt8).toNat, .string ⟨bo.toArray⟩, .int .i64 pl] 47 zb #[.int .i64 0, .int .i64 0] 31) := Lib.hid (S10.out.put 4 (.string ⟨bo.toArray⟩) hzf (.inl rfl))
  generalize w10.setCell ⟨fb, 4, none⟩ (.string ⟨bo.toArray⟩) = w11 at *
  obtain ⟨b110, b111, b112, b113, b114, b115⟩ := cells6 (S11.out.fr); obtain ⟨b11f0, b11f1, b11f2, b11f3, b11f4, b11f5⟩ := frees6 (S11.out.fr)
  obtain ⟨z110, z111⟩ := cells2 (S11.out.zr); obtain ⟨z11f0, z11f1⟩ := frees2 (S11.out.zr)
  rcases HC with ⟨hme, rfl, rfl⟩ | ⟨hme, rfl, rfl⟩
  · have t1 : (me != (bo.length : Int)) = true := by simpa using hme
    go_wp2_with (first | (go_at_call 24; (with_reducible refine (SP.out _).mono ?_); rintro e w12 ⟨rfl, hb12⟩; have S12 := Lib.hid (S11.out.below hb12); obtain ⟨b120, b121, b122, b123, b124, b125⟩ := cells6 (S12.out.fr); obtain ⟨b12f0, b12f1, b12f2, b12f3, b12f4, b12f5⟩ := frees6 (S12.out.fr); obtain ⟨z120, z121⟩ := cells2 (S12.out.zr); obtain ⟨z12f0, z12f1⟩ := frees2 (S12.out.zr); clear hb12) | (go_at_call 122; (with_reducible refine (ME.out _).mono ?_); rintro e w15 ⟨rfl, hb15⟩; have S15 := Lib.hid (S12.out.below hb15); obtain ⟨b150, b151, b152, b153, b154, b155⟩ := cells6 (S15.out.fr); obtain ⟨b15f0, b15f1, b15f2, b15f3, b15f4, b15f5⟩ := frees6 (S15.out.fr); obtain ⟨z150, z151⟩ := cells2 (S15.out.zr); obtain ⟨z15f0, z15f1⟩ := frees2 (S15.out.zr); clear hb15))
    refine end_cell rfl rfl rfl (store2 S15.out.zr rfl) Try.underlying31 rfl (by kernel_rfl) (FillSays.mk rfl ?_ ?_)
    · exact (S15.out.on.other (Only.set _) (.inr hwz)).other (Only.set _) (.inr hwz)
    · exact (heap_set_other _ (fun e => hzf e.symm)).trans ((heap_set_other _ (fun e => hzf e.symm)).trans S15.out.fr)
  · have t1 : (me != (bo.length : Int)) = false := by simpa using hme
    go_wp2_with (first | (go_at_call 24; (with_reducible refine (SP.out _).mono ?_); rintro e w12 ⟨rfl, hb12⟩; have S12 := Lib.hid (S11.out.below hb12); obtain ⟨b120, b121, b122, b123, b124, b125⟩ := cells6 (S12.out.fr); obtain ⟨b12f0, b12f1, b12f2, b12f3, b12f4, b12f5⟩ := frees6 (S12.out.fr); obtain ⟨z120, z121⟩ := cells2 (S12.out.zr); obtain ⟨z12f0, z12f1⟩ := frees2 (S12.out.zr); clear hb12) | (go_at_call 122; (with_reducible refine (ME.out _).mono ?_); rintro e w15 ⟨rfl, hb15⟩; have S15 := Lib.hid (S12.out.below hb15); obtain ⟨b150, b151, b152, b153, b154, b155⟩ := cells6 (S15.out.fr); obtain ⟨b15f0, b15f1, b15f2, b15f3, b15f4, b15f5⟩ := frees6 (S15.out.fr); obtain ⟨z150, z151⟩ := cells2 (S15.out.zr); obtain ⟨z15f0, z15f1⟩ := frees2 (S15.out.zr); clear hb15))
    refine end_cell rfl rfl rfl (store2 S15.out.zr rfl) Try.underlying31 rfl (by kernel_rfl) (FillSays.mk rfl ?_ ?_)
    · exact (S15.out.on.other (Only.set _) (.inr hwz)).other (Only.set _) (.inr hwz)
    · exact (heap_set_other _ (fun e => hzf e.symm)).trans ((heap_set_other _ (fun e => hzf e.symm)).trans S15.out.fr)
set_option maxHeartbeats 4000000 in
set_option maxRecDepth 100000 in
theorem fill_001 (v : Int) (fb : Nat) (id : List UInt8) (st fm gr : UInt8) (data bo0 bo : List UInt8) (pl at0 c2 p2 p1 me c p : Int) (m0 m1 m2 m3 : Rd) (w : World) (hf : w.heap[fb]? = some (.cells (frC id st fm 0 [] pl) 47 (0, 0)))
    (LK : Hid (∀ w, Calls Try.prog 66 #[hdV id st fm, .int .i64 v] w fun e w' => e = .returned (.bool false) ∧ Below w.heap.size w w'))
    (GR : Hid (∀ w, Calls Try.prog 108 #[hdV id st fm, .int .i64 v] w fun e w' => e = .returned (.bool false) ∧ Below w.heap.size w w'))
    (ME : Hid (∀ w, Calls Try.prog 122 #[hdV id st fm, .int .i64 v] w fun e w' => e = .returned (.bool false) ∧ Below w.heap.size w w'))
    (SP : Hid (∀ w, Calls Try.prog 24 #[hdV id st fm, .int .i64 v] w fun e w' => e = .returned (.bool true) ∧ Below w.heap.size w w'))
    (IN : Hid (∀ w, Calls Try.prog 58 #[.string ⟨data.toArray⟩, .int .i64 at0] w fun e w' => e = .returned (.pointer (some ⟨w.heap.size, 0, none⟩)) ∧ RdAt w' w.heap.size m0 ∧ Below w.heap.size w w'))
    (E1 : m1 = m0) (G1 : gr = 0)
    (AT : Hid (∀ ib w, RdAt w ib m1 → Calls Try.prog 98 #[.pointer (some ⟨ib, 0, none⟩)] w fun e w' => e = .returned (.int .i64 p1) ∧ w = w'))
    (E2 : m2 = m1)
    (FA : Hid (∀ ib w, RdAt w ib m2 → Calls Try.prog 56 #[.pointer (some ⟨ib, 0, none⟩)] w fun e w' => e = .returned (.agg #[.int .i64 c2, .int .i64 p2]) ∧ Below w.heap.size w w'))
    (RE : Hid (∀ ib w, RdAt w ib m2 → Calls Try.prog 62 #[.pointer (some ⟨ib, 0, none⟩)] w fun e w' => e = .returned (.string ⟨bo0.toArray⟩) ∧ RdAt w' ib m3 ∧ Only ib w w'))
    (DR : Hid (∀ w, Calls Try.prog 45 #[.string ⟨bo0.toArray⟩] w fun e w' => e = .returned (.string ⟨bo.toArray⟩) ∧ Below w.heap.size w w'))
    (HC : (c2 ≠ 0 ∧ c = c2 ∧ p = p2) ∨ (c2 = 0 ∧ c = 0 ∧ p = 0))
    : Calls Try.prog 126 #[.pointer (some ⟨fb, 0, none⟩), .int .i64 v, .string ⟨data.toArray⟩, .int .i64 at0] w (FillSays fb id st fm gr bo pl c p w) := by
  subst E1 G1
  subst E2
  unfold frC hdV at *
  have hlt : fb < w.heap.size := (Array.getElem?_eq_some_iff.1 hf).1
  have S0 : Hid (ST w (w.alloc (.cells #[.int .i64 0, .int .i64 0] 31)) fb fb _ 47 w.heap.size _ 31) := Lib.hid ⟨block_below hf ((Below.refl _ _).alloc (Nat.le_refl _) _), at_a0 _ _ _, Only.of_below ((Below.refl _ _).alloc (Nat.le_refl _) _)⟩
  obtain ⟨a0, a1, a2, a3, a4, a5⟩ := cells6 (hf)
  have BD := Lib.hid (fun w => bad_any c2 p2 w)
  go_enter Try.func126, Try.ntmps126
  go_upto_region 5 with (first | (go_at_call 66; (with_reducible refine (LK.out _).mono ?_); rintro e w1 ⟨rfl, hb1⟩; have S1 := Lib.hid (S0.out.below hb1); obtain ⟨b10, b11, b12, b13, b14, b15⟩ := cells6 (S1.out.fr); obtain ⟨b1f0, b1f1, b1f2, b1f3, b1f4, b1f5⟩ := frees6 (S1.out.fr); obtain ⟨z10, z11⟩ := cells2 (S1.out.zr); obtain ⟨z1f0, z1f1⟩ := frees2 (S1.out.zr); clear hb1) | (go_at_call 58; (with_reducible refine (IN.out _).mono ?_); rintro e w2 ⟨rfl, r2, hb2⟩; have R2 := Lib.hid r2; have S2 := Lib.hid (S1.out.below hb2); have hzi : w.heap.size ≠ w1.heap.size := fun e => (by have h9 := (Array.getElem?_eq_some_iff.1 S1.out.zr).1; omega); have hwi : w.heap.size ≤ w1.heap.size := S1.out.on.size; obtain ⟨b20, b21, b22, b23, b24, b25⟩ := cells6 (S2.out.fr); obtain ⟨b2f0, b2f1, b2f2, b2f3, b2f4, b2f5⟩ := frees6 (S2.out.fr); obtain ⟨z20, z21⟩ := cells2 (S2.out.zr); obtain ⟨z2f0, z2f1⟩ := frees2 (S2.out.zr); clear r2 hb2))
  generalize w1.heap.size = ib at *
  generalize hzb : w.heap.size = zb at *
  have HZB := Lib.hid hzb
  clear S1 LK IN hzb hf b1f0 b1f1 b1f2 b1f3 b1f4 b1f5 b10 b11 b12 b13 b14 b15 z1f0 z1f1 z10 z11 a0 a1 a2 a3 a4 a5
  have hfi : fb ≠ ib := by omega
  have hif : ib ≠ fb := by omega
  have hzf : zb ≠ fb := by omega
  have hwz : w.heap.size ≤ zb := Nat.le_of_eq HZB.out
  have hwi : w.heap.size ≤ ib := by omega
  go_upto_region 8 with (first | (go_at_call 108; (with_reducible refine (GR.out _).mono ?_); rintro e w3 ⟨rfl, hb3⟩; have S3 := Lib.hid (S2.out.below hb3); have R3 := Lib.hid (R2.out.below hb3); obtain ⟨b30, b31, b32, b33, b34, b35⟩ := cells6 (S3.out.fr); obtain ⟨b3f0, b3f1, b3f2, b3f3, b3f4, b3f5⟩ := frees6 (S3.out.fr); obtain ⟨z30, z31⟩ := cells2 (S3.out.zr); obtain ⟨z3f0, z3f1⟩ := frees2 (S3.out.zr); clear hb3) | (go_at_call 98; (with_reducible refine (AT.out ib _ R3.out).mono ?_); rintro e w5 ⟨rfl, rfl⟩; have S5 := S3; have R5 := R3))
  rcases HC with ⟨hc2, rfl, rfl⟩ | ⟨rfl, HC⟩
  · rw [show (c != 0) = true by simpa using hc2] at BD
    go_wp2_with (first | (go_at_call 122; (with_reducible refine (ME.out _).mono ?_); rintro e w6 ⟨rfl, hb6⟩; have S6 := Lib.hid (S5.out.below hb6); have R6 := Lib.hid (R5.out.below hb6); obtain ⟨b60, b61, b62, b63, b64, b65⟩ := cells6 (S6.out.fr); obtain ⟨b6f0, b6f1, b6f2, b6f3, b6f4, b6f5⟩ := frees6 (S6.out.fr); obtain ⟨z60, z61⟩ := cells2 (S6.out.zr); obtain ⟨z6f0, z6f1⟩ := frees2 (S6.out.zr); clear hb6) | (go_at_call 56; (with_reducible refine (FA.out ib _ R6.out).mono ?_); rintro e w8 ⟨rfl, hb8⟩; have S8 := Lib.hid (S6.out.below hb8); have R8 := Lib.hid (R6.out.below hb8); obtain ⟨b80, b81, b82, b83, b84, b85⟩ := cells6 (S8.out.fr); obtain ⟨b8f0, b8f1, b8f2, b8f3, b8f4, b8f5⟩ := frees6 (S8.out.fr); obtain ⟨z80, z81⟩ := cells2 (S8.out.zr); obtain ⟨z8f0, z8f1⟩ := frees2 (S8.out.zr); clear hb8) | (go_at_call 16; (with_reducible refine (BD.out _).mono ?_); rintro e w9 ⟨rfl, hb9⟩; have S9 := Lib.hid ((S8.out.alloc _).below hb9); have R9 := Lib.hid ((R8.out.alloc _).below hb9); obtain ⟨b90, b91, b92, b93, b94, b95⟩ := cells6 (S9.out.fr); obtain ⟨b9f0, b9f1, b9f2, b9f3, b9f4, b9f5⟩ := frees6 (S9.out.fr); obtain ⟨z90, z91⟩ := cells2 (S9.out.zr); obtain ⟨z9f0, z9f1⟩ := frees2 (S9.out.zr); have X9 := block_below (at_a0 w8 _ _) hb9; obtain ⟨x0, x1⟩ := cells2 (X9); clear hb9))
    refine end_cell rfl rfl rfl (store2 S9.out.zr rfl) Try.underlying31 rfl (by kernel_rfl) ⟨rfl, ?_, fun e => absurd e hc2⟩
    exact (S9.out.on.other (Only.set _) (.inr hwz)).other (Only.set _) (.inr hwz)
  rw [show ((0 : Int) != 0) = false by rfl] at BD
  go_upto_region 14 with (first | (go_at_call 122; (with_reducible refine (ME.out _).mono ?_); rintro e w6 ⟨rfl, hb6⟩; have S6 := Lib.hid (S5.out.below hb6); have R6 := Lib.hid (R5.out.below hb6); obtain ⟨b60, b61, b62, b63, b64, b65⟩ := cells6 (S6.out.fr); obtain ⟨b6f0, b6f1, b6f2, b6f3, b6f4, b6f5⟩ := frees6 (S6.out.fr); obtain ⟨z60, z61⟩ := cells2 (S6.out.zr); obtain ⟨z6f0, z6f1⟩ := frees2 (S6.out.zr); clear hb6) | (go_at_call 56; (with_reducible refine (FA.out ib _ R6.out).mono ?_); rintro e w8 ⟨rfl, hb8⟩; have S8 := Lib.hid (S6.out.below hb8); have R8 := Lib.hid (R6.out.below hb8); obtain ⟨b80, b81, b82, b83, b84, b85⟩ := cells6 (S8.out.fr); obtain ⟨b8f0, b8f1, b8f2, b8f3, b8f4, b8f5⟩ := frees6 (S8.out.fr); obtain ⟨z80, z81⟩ := cells2 (S8.out.zr); obtain ⟨z8f0, z8f1⟩ := frees2 (S8.out.zr); clear hb8) | (go_at_call 16; (with_reducible refine (BD.out _).mono ?_); rintro e w9 ⟨rfl, hb9⟩; have S9 := Lib.hid ((S8.out.alloc _).below hb9); have R9 := Lib.hid ((R8.out.alloc _).below hb9); obtain ⟨b90, b91, b92, b93, b94, b95⟩ := cells6 (S9.out.fr); obtain ⟨b9f0, b9f1, b9f2, b9f3, b9f4, b9f5⟩ := frees6 (S9.out.fr); obtain ⟨z90, z91⟩ := cells2 (S9.out.zr); obtain ⟨z9f0, z9f1⟩ := frees2 (S9.out.zr); have X9 := block_below (at_a0 w8 _ _) hb9; obtain ⟨x0, x1⟩ := cells2 (X9); clear hb9) | (go_at_call 62; (with_reducible refine (RE.out ib _ R9.out).mono ?_); rintro e w10 ⟨rfl, r10, o10⟩; have R10 := Lib.hid r10; have S10 := Lib.hid (S9.out.read o10 hfi hzi (.inr hwi)); obtain ⟨b100, b101, b102, b103, b104, b105⟩ := cells6 (S10.out.fr); obtain ⟨b10f0, b10f1, b10f2, b10f3, b10f4, b10f5⟩ := frees6 (S10.out.fr); obtain ⟨z100, z101⟩ := cells2 (S10.out.zr); obtain ⟨z10f0, z10f1⟩ := frees2 (S10.out.zr); clear r10 o10))
  have S11 : Hid (ST w (w10.setCell ⟨fb, 4, none⟩ (.string ⟨bo0.toArray⟩)) fb fb #[.string ⟨id.toArray⟩, .int .u8 st.toNat, .int .u8 fm.toNat, .int .u8 (0 : UInt8).toNat, .string ⟨bo0.toArray⟩, .int .i64 pl] 47 zb #[.int .i64 0, .int .i64 0] 31) := Lib.hid (S10.out.put 4 (.string ⟨bo0.toArray⟩) hzf (.inl rfl))
  generalize w10.setCell ⟨fb, 4, none⟩ (.string ⟨bo0.toArray⟩) = w11 at *
  obtain ⟨b110, b111, b112, b113, b114, b115⟩ := cells6 (S11.out.fr); obtain ⟨b11f0, b11f1, b11f2, b11f3, b11f4, b11f5⟩ := frees6 (S11.out.fr)
  obtain ⟨z110, z111⟩ := cells2 (S11.out.zr); obtain ⟨z11f0, z11f1⟩ := frees2 (S11.out.zr)
  obtain ⟨rfl, rfl⟩ := HC
  go_wp2_with (first | (go_at_call 24; (with_reducible refine (SP.out _).mono ?_); rintro e w12 ⟨rfl, hb12⟩; have S12 := Lib.hid (S11.out.below hb12); obtain ⟨b120, b121, b122, b123, b124, b125⟩ := cells6 (S12.out.fr); obtain ⟨b12f0, b12f1, b12f2, b12f3, b12f4, b12f5⟩ := frees6 (S12.out.fr); obtain ⟨z120, z121⟩ := cells2 (S12.out.zr); obtain ⟨z12f0, z12f1⟩ := frees2 (S12.out.zr); clear hb12) | (go_at_call 45; (with_reducible refine (DR.out _).mono ?_); rintro e w13 ⟨rfl, hb13⟩; have S13 := Lib.hid (S12.out.below hb13); obtain ⟨b130, b131, b132, b133, b134, b135⟩ := cells6 (S13.out.fr); obtain ⟨b13f0, b13f1, b13f2, b13f3, b13f4, b13f5⟩ := frees6 (S13.out.fr); obtain ⟨z130, z131⟩ := cells2 (S13.out.zr); obtain ⟨z13f0, z13f1⟩ := frees2 (S13.out.zr); clear hb13) | (go_at_call 122; (with_reducible refine (ME.out _).mono ?_); rintro e w15 ⟨rfl, hb15⟩; have S15 : Hid (ST w w15 fb fb #[.string ⟨id.toArray⟩, .int .u8 st.toNat, .int .u8 fm.toNat, .int .u8 (0 : UInt8).toNat, .string ⟨bo.toArray⟩, .int .i64 pl] 47 zb #[.int .i64 0, .int .i64 0] 31) := Lib.hid ((S13.out.put 4 (.string ⟨bo.toArray⟩) hzf (.inl rfl)).below hb15); obtain ⟨b150, b151, b152, b153, b154, b155⟩ := cells6 (S15.out.fr); obtain ⟨b15f0, b15f1, b15f2, b15f3, b15f4, b15f5⟩ := frees6 (S15.out.fr); obtain ⟨z150, z151⟩ := cells2 (S15.out.zr); obtain ⟨z15f0, z15f1⟩ := frees2 (S15.out.zr); clear hb15))
  refine end_cell rfl rfl rfl (store2 S15.out.zr rfl) Try.underlying31 rfl (by kernel_rfl) (FillSays.mk rfl ?_ ?_)
  · exact (S15.out.on.other (Only.set _) (.inr hwz)).other (Only.set _) (.inr hwz)
  · exact (heap_set_other _ (fun e => hzf e.symm)).trans ((heap_set_other _ (fun e => hzf e.symm)).trans S15.out.fr)
set_option maxHeartbeats 4000000 in
set_option maxRecDepth 100000 in
theorem fill_000 (v : Int) (fb : Nat) (id : List UInt8) (st fm gr : UInt8) (data bo0 bo : List UInt8) (pl at0 c2 p2 p1 me c p : Int) (m0 m1 m2 m3 : Rd) (w : World) (hf : w.heap[fb]? = some (.cells (frC id st fm 0 [] pl) 47 (0, 0)))
    (LK : Hid (∀ w, Calls Try.prog 66 #[hdV id st fm, .int .i64 v] w fun e w' => e = .returned (.bool false) ∧ Below w.heap.size w w'))
    (GR : Hid (∀ w, Calls Try.prog 108 #[hdV id st fm, .int .i64 v] w fun e w' => e = .returned (.bool false) ∧ Below w.heap.size w w'))
    (ME : Hid (∀ w, Calls Try.prog 122 #[hdV id st fm, .int .i64 v] w fun e w' => e = .returned (.bool false) ∧ Below w.heap.size w w'))
    (SP : Hid (∀ w, Calls Try.prog 24 #[hdV id st fm, .int .i64 v] w fun e w' => e = .returned (.bool false) ∧ Below w.heap.size w w'))
    (IN : Hid (∀ w, Calls Try.prog 58 #[.string ⟨data.toArray⟩, .int .i64 at0] w fun e w' => e = .returned (.pointer (some ⟨w.heap.size, 0, none⟩)) ∧ RdAt w' w.heap.size m0 ∧ Below w.heap.size w w'))
    (E1 : m1 = m0) (G1 : gr = 0)
    (AT : Hid (∀ ib w, RdAt w ib m1 → Calls Try.prog 98 #[.pointer (some ⟨ib, 0, none⟩)] w fun e w' => e = .returned (.int .i64 p1) ∧ w = w'))
    (E2 : m2 = m1)
    (FA : Hid (∀ ib w, RdAt w ib m2 → Calls Try.prog 56 #[.pointer (some ⟨ib, 0, none⟩)] w fun e w' => e = .returned (.agg #[.int .i64 c2, .int .i64 p2]) ∧ Below w.heap.size w w'))
    (RE : Hid (∀ ib w, RdAt w ib m2 → Calls Try.prog 62 #[.pointer (some ⟨ib, 0, none⟩)] w fun e w' => e = .returned (.string ⟨bo0.toArray⟩) ∧ RdAt w' ib m3 ∧ Only ib w w'))
    (E3 : bo = bo0)
    (HC : (c2 ≠ 0 ∧ c = c2 ∧ p = p2) ∨ (c2 = 0 ∧ c = 0 ∧ p = 0))
    : Calls Try.prog 126 #[.pointer (some ⟨fb, 0, none⟩), .int .i64 v, .string ⟨data.toArray⟩, .int .i64 at0] w (FillSays fb id st fm gr bo pl c p w) := by
  subst E1 G1
  subst E2
  subst E3
  unfold frC hdV at *
  have hlt : fb < w.heap.size := (Array.getElem?_eq_some_iff.1 hf).1
  have S0 : Hid (ST w (w.alloc (.cells #[.int .i64 0, .int .i64 0] 31)) fb fb _ 47 w.heap.size _ 31) := Lib.hid ⟨block_below hf ((Below.refl _ _).alloc (Nat.le_refl _) _), at_a0 _ _ _, Only.of_below ((Below.refl _ _).alloc (Nat.le_refl _) _)⟩
  obtain ⟨a0, a1, a2, a3, a4, a5⟩ := cells6 (hf)
  have BD := Lib.hid (fun w => bad_any c2 p2 w)
  go_enter Try.func126, Try.ntmps126
  go_upto_region 5 with (first | (go_at_call 66; (with_reducible refine (LK.out _).mono ?_); rintro e w1 ⟨rfl, hb1⟩; have S1 := Lib.hid (S0.out.below hb1); obtain ⟨b10, b11, b12, b13, b14, b15⟩ := cells6 (S1.out.fr); obtain ⟨b1f0, b1f1, b1f2, b1f3, b1f4, b1f5⟩ := frees6 (S1.out.fr); obtain ⟨z10, z11⟩ := cells2 (S1.out.zr); obtain ⟨z1f0, z1f1⟩ := frees2 (S1.out.zr); clear hb1) | (go_at_call 58; (with_reducible refine (IN.out _).mono ?_); rintro e w2 ⟨rfl, r2, hb2⟩; have R2 := Lib.hid r2; have S2 := Lib.hid (S1.out.below hb2); have hzi : w.heap.size ≠ w1.heap.size := fun e => (by have h9 := (Array.getElem?_eq_some_iff.1 S1.out.zr).1; omega); have hwi : w.heap.size ≤ w1.heap.size := S1.out.on.size; obtain ⟨b20, b21, b22, b23, b24, b25⟩ := cells6 (S2.out.fr); obtain ⟨b2f0, b2f1, b2f2, b2f3, b2f4, b2f5⟩ := frees6 (S2.out.fr); obtain ⟨z20, z21⟩ := cells2 (S2.out.zr); obtain ⟨z2f0, z2f1⟩ := frees2 (S2.out.zr); clear r2 hb2))
  generalize w1.heap.size = ib at *
  generalize hzb : w.heap.size = zb at *
  have HZB := Lib.hid hzb
  clear S1 LK IN hzb hf b1f0 b1f1 b1f2 b1f3 b1f4 b1f5 b10 b11 b12 b13 b14 b15 z1f0 z1f1 z10 z11 a0 a1 a2 a3 a4 a5
  have hfi : fb ≠ ib := by omega
  have hif : ib ≠ fb := by omega
  have hzf : zb ≠ fb := by omega
  have hwz : w.heap.size ≤ zb := Nat.le_of_eq HZB.out
  have hwi : w.heap.size ≤ ib := by omega
  go_upto_region 8 with (first | (go_at_call 108; (with_reducible refine (GR.out _).mono ?_); rintro e w3 ⟨rfl, hb3⟩; have S3 := Lib.hid (S2.out.below hb3); have R3 := Lib.hid (R2.out.below hb3); obtain ⟨b30, b31, b32, b33, b34, b35⟩ := cells6 (S3.out.fr); obtain ⟨b3f0, b3f1, b3f2, b3f3, b3f4, b3f5⟩ := frees6 (S3.out.fr); obtain ⟨z30, z31⟩ := cells2 (S3.out.zr); obtain ⟨z3f0, z3f1⟩ := frees2 (S3.out.zr); clear hb3) | (go_at_call 98; (with_reducible refine (AT.out ib _ R3.out).mono ?_); rintro e w5 ⟨rfl, rfl⟩; have S5 := S3; have R5 := R3))
  rcases HC with ⟨hc2, rfl, rfl⟩ | ⟨rfl, HC⟩
  · rw [show (c != 0) = true by simpa using hc2] at BD
    go_wp2_with (first | (go_at_call 122; (with_reducible refine (ME.out _).mono ?_); rintro e w6 ⟨rfl, hb6⟩; have S6 := Lib.hid (S5.out.below hb6); have R6 := Lib.hid (R5.out.below hb6); obtain ⟨b60, b61, b62, b63, b64, b65⟩ := cells6 (S6.out.fr); obtain ⟨b6f0, b6f1, b6f2, b6f3, b6f4, b6f5⟩ := frees6 (S6.out.fr); obtain ⟨z60, z61⟩ := cells2 (S6.out.zr); obtain ⟨z6f0, z6f1⟩ := frees2 (S6.out.zr); clear hb6) | (go_at_call 56; (with_reducible refine (FA.out ib _ R6.out).mono ?_); rintro e w8 ⟨rfl, hb8⟩; have S8 := Lib.hid (S6.out.below hb8); have R8 := Lib.hid (R6.out.below hb8); obtain ⟨b80, b81, b82, b83, b84, b85⟩ := cells6 (S8.out.fr); obtain ⟨b8f0, b8f1, b8f2, b8f3, b8f4, b8f5⟩ := frees6 (S8.out.fr); obtain ⟨z80, z81⟩ := cells2 (S8.out.zr); obtain ⟨z8f0, z8f1⟩ := frees2 (S8.out.zr); clear hb8) | (go_at_call 16; (with_reducible refine (BD.out _).mono ?_); rintro e w9 ⟨rfl, hb9⟩; have S9 := Lib.hid ((S8.out.alloc _).below hb9); have R9 := Lib.hid ((R8.out.alloc _).below hb9); obtain ⟨b90, b91, b92, b93, b94, b95⟩ := cells6 (S9.out.fr); obtain ⟨b9f0, b9f1, b9f2, b9f3, b9f4, b9f5⟩ := frees6 (S9.out.fr); obtain ⟨z90, z91⟩ := cells2 (S9.out.zr); obtain ⟨z9f0, z9f1⟩ := frees2 (S9.out.zr); have X9 := block_below (at_a0 w8 _ _) hb9; obtain ⟨x0, x1⟩ := cells2 (X9); clear hb9))
    refine end_cell rfl rfl rfl (store2 S9.out.zr rfl) Try.underlying31 rfl (by kernel_rfl) ⟨rfl, ?_, fun e => absurd e hc2⟩
    exact (S9.out.on.other (Only.set _) (.inr hwz)).other (Only.set _) (.inr hwz)
  rw [show ((0 : Int) != 0) = false by rfl] at BD
  go_upto_region 14 with (first | (go_at_call 122; (with_reducible refine (ME.out _).mono ?_); rintro e w6 ⟨rfl, hb6⟩; have S6 := Lib.hid (S5.out.below hb6); have R6 := Lib.hid (R5.out.below hb6); obtain ⟨b60, b61, b62, b63, b64, b65⟩ := cells6 (S6.out.fr); obtain ⟨b6f0, b6f1, b6f2, b6f3, b6f4, b6f5⟩ := frees6 (S6.out.fr); obtain ⟨z60, z61⟩ := cells2 (S6.out.zr); obtain ⟨z6f0, z6f1⟩ := frees2 (S6.out.zr); clear hb6) | (go_at_call 56; (with_reducible refine (FA.out ib _ R6.out).mono ?_); rintro e w8 ⟨rfl, hb8⟩; have S8 := Lib.hid (S6.out.below hb8); have R8 := Lib.hid (R6.out.below hb8); obtain ⟨b80, b81, b82, b83, b84, b85⟩ := cells6 (S8.out.fr); obtain ⟨b8f0, b8f1, b8f2, b8f3, b8f4, b8f5⟩ := frees6 (S8.out.fr); obtain ⟨z80, z81⟩ := cells2 (S8.out.zr); obtain ⟨z8f0, z8f1⟩ := frees2 (S8.out.zr); clear hb8) | (go_at_call 16; (with_reducible refine (BD.out _).mono ?_); rintro e w9 ⟨rfl, hb9⟩; have S9 := Lib.hid ((S8.out.alloc _).below hb9); have R9 := Lib.hid ((R8.out.alloc _).below hb9); obtain ⟨b90, b91, b92, b93, b94, b95⟩ := cells6 (S9.out.fr); obtain ⟨b9f0, b9f1, b9f2, b9f3, b9f4, b9f5⟩ := frees6 (S9.out.fr); obtain ⟨z90, z91⟩ := cells2 (S9.out.zr); obtain ⟨z9f0, z9f1⟩ := frees2 (S9.out.zr); have X9 := block_below (at_a0 w8 _ _) hb9; obtain ⟨x0, x1⟩ := cells2 (X9); clear hb9) | (go_at_call 62; (with_reducible refine (RE.out ib _ R9.out).mono ?_); rintro e w10 ⟨rfl, r10, o10⟩; have R10 := Lib.hid r10; have S10 := Lib.hid (S9.out.read o10 hfi hzi (.inr hwi)); obtain ⟨b100, b101, b102, b103, b104, b105⟩ := cells6 (S10.out.fr); obtain ⟨b10f0, b10f1, b10f2, b10f3, b10f4, b10f5⟩ := frees6 (S10.out.fr); obtain ⟨z100, z101⟩ := cells2 (S10.out.zr); obtain ⟨z10f0, z10f1⟩ := frees2 (S10.out.zr); clear r10 o10))
  have S11 : Hid (ST w (w10.setCell ⟨fb, 4, none⟩ (.string ⟨bo.toArray⟩)) fb fb #[.string ⟨id.toArray⟩, .int .u8 st.toNat, .int .u8 fm.toNat, .int .u8 (0 : UInt8).toNat, .string ⟨bo.toArray⟩, .int .i64 pl] 47 zb #[.int .i64 0, .int .i64 0] 31) := Lib.hid (S10.out.put 4 (.string ⟨bo.toArray⟩) hzf (.inl rfl))
  generalize w10.setCell ⟨fb, 4, none⟩ (.string ⟨bo.toArray⟩) = w11 at *
  obtain ⟨b110, b111, b112, b113, b114, b115⟩ := cells6 (S11.out.fr); obtain ⟨b11f0, b11f1, b11f2, b11f3, b11f4, b11f5⟩ := frees6 (S11.out.fr)
  obtain ⟨z110, z111⟩ := cells2 (S11.out.zr); obtain ⟨z11f0, z11f1⟩ := frees2 (S11.out.zr)
  obtain ⟨rfl, rfl⟩ := HC
  go_wp2_with (first | (go_at_call 24; (with_reducible refine (SP.out _).mono ?_); rintro e w12 ⟨rfl, hb12⟩; have S12 := Lib.hid (S11.out.below hb12); obtain ⟨b120, b121, b122, b123, b124, b125⟩ := cells6 (S12.out.fr); obtain ⟨b12f0, b12f1, b12f2, b12f3, b12f4, b12f5⟩ := frees6 (S12.out.fr); obtain ⟨z120, z121⟩ := cells2 (S12.out.zr); obtain ⟨z12f0, z12f1⟩ := frees2 (S12.out.zr); clear hb12) | (go_at_call 122; (with_reducible refine (ME.out _).mono ?_); rintro e w15 ⟨rfl, hb15⟩; have S15 := Lib.hid (S12.out.below hb15); obtain ⟨b150, b151, b152, b153, b154, b155⟩ := cells6 (S15.out.fr); obtain ⟨b15f0, b15f1, b15f2, b15f3, b15f4, b15f5⟩ := frees6 (S15.out.fr); obtain ⟨z150, z151⟩ := cells2 (S15.out.zr); obtain ⟨z15f0, z15f1⟩ := frees2 (S15.out.zr); clear hb15))
  refine end_cell rfl rfl rfl (store2 S15.out.zr rfl) Try.underlying31 rfl (by kernel_rfl) (FillSays.mk rfl ?_ ?_)
  · exact (S15.out.on.other (Only.set _) (.inr hwz)).other (Only.set _) (.inr hwz)
  · exact (heap_set_other _ (fun e => hzf e.symm)).trans ((heap_set_other _ (fun e => hzf e.symm)).trans S15.out.fr)
end Go.Proofs.Ytmnmonmbdgedbaa
