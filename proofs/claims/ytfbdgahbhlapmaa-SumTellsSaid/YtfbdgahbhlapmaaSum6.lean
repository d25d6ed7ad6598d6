/- The walk of the statement SumTells. -/
import Derived.Test.YtfbdgahbhlapmaaSum5
import Derived.Deep.DeepCutAuto
import Derived.Lib.ConvBytes
import Derived.Laws.IdiomStrings
namespace Go.Proofs.Ytfbdgahbhlapmaa
open Go.RowKit

theorem ofNat_mod' (x : Nat) : UInt8.ofNat x = UInt8.ofNat (x % 256) := (ofNat_mod x).symm
theorem self_zero (l : List UInt8) : adds 0 [l, (smallL (add 0 l).toNat 4).reverse] = 0 := by
  have h := add_self (add 0 l)
  have hs := (add 0 l).isLt
  have e : adds 0 [l, (smallL (add 0 l).toNat 4).reverse] = add (add 0 l) (smallL (add 0 l).toNat 4).reverse := rfl
  rw [e]
  generalize add 0 l = z at *
  rw [← h]
  congr 1
  simp only [smallL, List.reverse_cons, List.reverse_nil, List.nil_append, List.cons_append]
  rw [show z.toNat / 256 / 256 / 256 = z.toNat / 16777216 by omega, show z.toNat / 256 / 256 = z.toNat / 65536 by omega]
  rw [ofNat_mod' (z.toNat / 65536), ofNat_mod' (z.toNat / 256), ofNat_mod' z.toNat]

theorem u8_xor (a b : UInt8) : bits .xor .u8 (a.toNat : Int) (b.toNat : Int) = ((a ^^^ b).toNat : Int) := by
  have h := UInt8.toNat_lt (a ^^^ b)
  have ha := UInt8.toNat_lt a
  have hb := UInt8.toNat_lt b
  have e : (BitVec.ofInt IntKind.u8.bits (a.toNat : Int) ^^^ BitVec.ofInt IntKind.u8.bits (b.toNat : Int)).toNat = (a ^^^ b).toNat := by
    rw [BitVec.toNat_xor, UInt8.toNat_xor]
    show (BitVec.ofInt 8 (a.toNat : Int)).toNat ^^^ (BitVec.ofInt 8 (b.toNat : Int)).toNat = _
    rw [BitVec.ofInt_natCast, BitVec.ofInt_natCast, BitVec.toNat_ofNat, BitVec.toNat_ofNat, Nat.mod_eq_of_lt ha, Nat.mod_eq_of_lt hb]
  simp only [bits, e]
  generalize (a ^^^ b).toNat = z at *
  simp only [IntKind.wrap, IntKind.bits, IntKind.signed]
  simp
  omega
theorem conv_bytes {P : Program} (w : World) (src dst e : TypeId) (l : List UInt8) (hs : P.underlying src = some .string) (hd : P.underlying dst = some (.slice e)) (he : P.underlying e = some (.int .u8)) :
    (convert src dst (.string ⟨l.toArray⟩)).run P w = .ok (.slice (some ⟨w.heap.size, 0, none⟩) l.length (grownCap w l.length 0 e)) (Lib.bytesWorld w e ⟨l.toArray⟩) := Lib.run_convert_string_bytes w src dst e ⟨l.toArray⟩ hs hd he
/-- the world behind '[]byte(text)' -/
theorem conv_facts (w : World) (e : TypeId) (l : List UInt8) : Below w.heap.size w (Lib.bytesWorld w e ⟨l.toArray⟩) ∧ (Lib.bytesWorld w e ⟨l.toArray⟩).heap.size = w.heap.size + 1 ∧
    ∀ j (h : j < l.length), (Lib.bytesWorld w e ⟨l.toArray⟩).cell? ⟨w.heap.size, j, none⟩ = some (.int .u8 (l[j].toNat : Int)) ∧ (Lib.bytesWorld w e ⟨l.toArray⟩).frozen? ⟨w.heap.size, j, none⟩ = false := by
  refine ⟨⟨rfl, rfl, rfl, ?_, fun k hk => Lib.bytesWorld_at_old w e _ k hk⟩, Lib.bytesWorld_size w e _, fun j h => ⟨?_, ?_⟩⟩
  · rw [Lib.bytesWorld_size]; omega
  · rw [Lib.bytesWorld_cell w e _ j (by simpa [ByteArray.size] using h)]
    simp [List.getD_eq_getElem?_getD, h]
  · have h1 := Lib.bytesWorld_at_new w e ⟨l.toArray⟩
    have h2 : j < (Lib.bytesCells w e ⟨l.toArray⟩).size := by simp [Lib.bytesCells]; omega
    simp [World.frozen?, h1]
    omega

theorem conv_back {P : Program} (V : World) (b : Nat) (l : List UInt8) (hc : ∀ j (h : j < l.length), V.cell? ⟨b, j, none⟩ = some (.int .u8 (l[j].toNat : Int))) (i : Nat) (hi : i < l.length) (d : UInt8) (src dst e : TypeId) (cap : Nat)
    (hs : P.underlying src = some (.slice e)) (he : P.underlying e = some (.int .u8)) (hd : P.underlying dst = some .string) (hb : b < V.heap.size) :
    ∀ w5, Below (V.setCell ⟨b, i, none⟩ (.int .u8 (d.toNat : Int))).heap.size (V.setCell ⟨b, i, none⟩ (.int .u8 (d.toNat : Int))) w5 → (convert src dst (.slice (some ⟨b, 0, none⟩) l.length cap)).run P w5 = .ok (.string ⟨(l.set i d).toArray⟩) w5 := by
  intro w5 h5
  have h := run_convert_bytes_back (P := P) w5 src dst e ⟨b, 0, none⟩ cap (l.set i d) hs he hd (by
    intro j hj
    rw [List.length_set] at hj
    rw [Addr.add_lit, Nat.zero_add, h5.cell (by simpa using hb)]
    by_cases hij : i = j
    · subst hij
      rw [World.cell?_setCell_same _ _ _ (hc i hi)]
      simp
    · rw [World.cell?_setCell_other _ _ _ _ (by intro e; injection e with _ e2; exact hij e2), hc j hj]
      simp [hij])
  rw [List.length_set] at h
  exact h

def TellPre (l : List UInt8) (z : BitVec 32) (q : List UInt8) : Prop :=
  (∀ w : World, Calls Try.prog 31 #[.slice (some ⟨w.heap.size, 0, none⟩) 1 1] (w.alloc (.cells #[.string ⟨l.toArray⟩] 9)) fun e w' => e = .returned (.int .u32 z.toNat) ∧ Below (w.alloc (.cells #[.string ⟨l.toArray⟩] 9)).heap.size (w.alloc (.cells #[.string ⟨l.toArray⟩] 9)) w') ∧
  (∀ w : World, Calls Try.prog 43 #[.int .u32 z.toNat] w fun e w' => e = .returned (.string ⟨q.toArray⟩) ∧ Below w.heap.size w w') ∧ q.length = 4 ∧
  (∀ w : World, Calls Try.prog 31 #[.slice (some ⟨w.heap.size, 0, none⟩) 2 2] (w.alloc (.cells #[.string ⟨l.toArray⟩, .string ⟨q.reverse.toArray⟩] 9)) fun e w' => e = .returned (.int .u32 0) ∧ Below (w.alloc (.cells #[.string ⟨l.toArray⟩, .string ⟨q.reverse.toArray⟩] 9)).heap.size (w.alloc (.cells #[.string ⟨l.toArray⟩, .string ⟨q.reverse.toArray⟩] 9)) w')
theorem tellPre (l : List UInt8) (h : l.length ≤ 1000) : TellPre l (add 0 l) (smallL (add 0 l).toNat 4) := by
  refine ⟨fun w => sumOf_any _ 1 1 [l] _ (StrsAt.one w l _) (by decide) (by simp only [List.mem_singleton, forall_eq]; omega), fun w => sumBytes_any _ w, smallL_len _ _, fun w => ?_⟩
  have h2 := sumOf_any _ 2 2 [l, (smallL (add 0 l).toNat 4).reverse] _ (StrsAt.two w l _ 9) (by decide) (by
    intro p hp
    simp only [List.mem_cons, List.not_mem_nil, or_false] at hp
    rcases hp with rfl | rfl
    · omega
    · rw [List.length_reverse, smallL_len]; decide)
  rw [self_zero] at h2
  exact h2

set_option maxHeartbeats 400000 in
set_option maxRecDepth 100000 in
theorem tells_main (l : List UInt8) (hl : ¬ (1000 : Int) < l.length) (h0 : 0 < l.length) (k : Nat) (hk : k < 65536) (c : UInt8) (hc : (((c.toNat : Nat) : Int) == 0) = false) (w : World) :
    Calls Try.prog 10 #[.string ⟨l.toArray⟩, .int .u16 k, .int .u8 c.toNat] w fun e w' => e = .returned (.bool true) ∧ Below w.heap.size w w' := by
  have hp := tellPre l (by omega)
  have hil : k % l.length < l.length := Nat.mod_lt _ h0
  have hne : l[k % l.length] ^^^ c ≠ l[k % l.length] := by
    intro e
    have e2 := congrArg (fun x => l[k % l.length] ^^^ x) e
    simp only [← UInt8.xor_assoc, UInt8.xor_self, UInt8.zero_xor] at e2
    subst e2
    simp at hc
  have hz2 := add_set 0 l (k % l.length) hil (l[k % l.length] ^^^ c) hne
  have c5 := fun w => sumOf_any (some ⟨w.heap.size, 0, none⟩) 1 1 [l.set (k % l.length) (l[k % l.length] ^^^ c)] (w.alloc (.cells #[.string ⟨(l.set (k % l.length) (l[k % l.length] ^^^ c)).toArray⟩] 9)) (StrsAt.one w _ _) (by decide) (by simp only [List.mem_singleton, forall_eq, List.length_set]; omega)
  have e5 : adds 0 [l.set (k % l.length) (l[k % l.length] ^^^ c)] = add 0 (l.set (k % l.length) (l[k % l.length] ^^^ c)) := rfl
  rw [e5] at c5
  have C5 := Lib.hid c5
  clear c5 e5 hne
  generalize add 0 (l.set (k % l.length) (l[k % l.length] ^^^ c)) = z2 at *
  generalize add 0 l = z at *
  have hzz : ((z2.toNat : Int) != (z.toNat : Int)) = true := by
    rw [bne_iff_ne]
    intro e
    exact hz2 (BitVec.eq_of_toNat_eq (by omega))
  clear hz2
  generalize smallL z.toNat 4 = q at *
  obtain ⟨p1, p2, p3, p4⟩ := hp
  have C1 := Lib.hid p1
  have C2 := Lib.hid p2
  have C4 := Lib.hid p4
  have q4 : ((q.length : Int) != 4) = false := by rw [p3]; rfl
  have q9 : q.length ≤ 1000000000 := by omega
  clear p1 p2 p3 p4
  go_enter Try.func10, Try.ntmps10
  go_upto_region 7 with (first | (go_at_call 31; first | (with_reducible refine (C1.out _).mono ?_; rintro e w1 ⟨rfl, hb1⟩) | (with_reducible refine (C4.out _).mono ?_; rintro e w3 ⟨rfl, hb3⟩)) | (go_at_call 43; refine (C2.out _).mono ?_; rintro e w2 ⟨rfl, hb2⟩) | (go_at_call 36; refine (back_any _ _ q9).mono ?_; rintro e w4 ⟨rfl, rfl⟩))
  have hE : l.isEmpty = false := by cases l; simp at h0; rfl
  have HB := Lib.hid (nextB (nextB (below_a1 hb1) hb2) (below_a1 hb3))
  clear hb1 hb2 hb3
  have hcv := conv_bytes (P := Try.prog) w3 9 53 5 l Try.underlying9 Try.underlying53 Try.underlying5
  obtain ⟨hV, hVs, hVc⟩ := conv_facts w3 5 l
  have HB3 := Lib.hid (nextB HB.out hV)
  have HVc := Lib.hid hVc
  generalize Lib.bytesWorld w3 5 ⟨l.toArray⟩ = V at *
  generalize grownCap w3 l.length 0 5 = cap at *
  have hbV : w3.heap.size < V.heap.size := by omega
  have hbw := HB.out.size
  generalize w3.heap.size = b at *
  clear hV hVs hVc HB
  go_upto_region 10 with (fail)
  obtain ⟨c1, f1⟩ := HVc.out (k % l.length) hil
  have ex := u8_xor l[k % l.length] c
  have HX := Lib.hid (conv_back V b l (fun j h => (HVc.out j h).1) (k % l.length) hil (l[k % l.length] ^^^ c) 53 9 5 cap Try.underlying53 Try.underlying5 Try.underlying9 hbV)
  generalize l.set (k % l.length) (l[k % l.length] ^^^ c) = l2 at *
  generalize l[k % l.length] ^^^ c = d at *
  go_wp2_with (first | (go_at_call 29; refine (awake16' _).mono ?_; rintro e w5 ⟨rfl, hb5⟩; have hx := HX.out _ hb5) | (go_at_call 31; with_reducible refine (C5.out _).mono ?_; rintro e w6 ⟨rfl, hb6⟩))
  go_ret
  exact ⟨rfl, nextB (nextB (HB3.out.setCell hbw _) hb5) (below_a1 hb6)⟩

set_option maxHeartbeats 2000000 in
set_option maxRecDepth 100000 in
theorem tells_idle (l : List UInt8) (hl : ¬ (1000 : Int) < l.length) (k : Int) (n : Int) (hc : l.isEmpty = true ∨ n = 0) (w : World) :
    Calls Try.prog 10 #[.string ⟨l.toArray⟩, .int .u16 k, .int .u8 n] w fun e w' => e = .returned (.bool true) ∧ Below w.heap.size w w' := by
  have hp := tellPre l (by omega)
  generalize add 0 l = z at *
  generalize smallL z.toNat 4 = q at *
  obtain ⟨p1, p2, p3, p4⟩ := hp
  have C1 := Lib.hid p1
  have C2 := Lib.hid p2
  have C4 := Lib.hid p4
  have q4 : ((q.length : Int) != 4) = false := by rw [p3]; rfl
  have q9 : q.length ≤ 1000000000 := by omega
  clear p1 p2 p3 p4
  go_enter Try.func10, Try.ntmps10
  go_upto_region 7 with (first | (go_at_call 31; first | (with_reducible refine (C1.out _).mono ?_; rintro e w1 ⟨rfl, hb1⟩) | (with_reducible refine (C4.out _).mono ?_; rintro e w3 ⟨rfl, hb3⟩)) | (go_at_call 43; refine (C2.out _).mono ?_; rintro e w2 ⟨rfl, hb2⟩) | (go_at_call 36; refine (back_any _ _ q9).mono ?_; rintro e w4 ⟨rfl, rfl⟩))
  have HB := Lib.hid (nextB (nextB (below_a1 hb1) hb2) (below_a1 hb3))
  clear hb1 hb2 hb3
  rcases hE : l.isEmpty with _ | _
  · obtain rfl : n = 0 := by rcases hc with h | h; · rw [hE] at h; cases h
                             · exact h
    go_wp2_with (go_at_call 29; refine (awake16' _).mono ?_; rintro e w5 ⟨rfl, hb5⟩)
    go_ret
    exact ⟨rfl, nextB HB.out hb5⟩
  · go_wp2_with (go_at_call 29; refine (awake16' _).mono ?_; rintro e w5 ⟨rfl, hb5⟩)
    go_ret
    exact ⟨rfl, nextB HB.out hb5⟩

set_option maxRecDepth 100000 in
theorem tells_over (l : List UInt8) (hl : (1000 : Int) < l.length) (k : Int) (n : Int) (w : World) :
    Calls Try.prog 10 #[.string ⟨l.toArray⟩, .int .u16 k, .int .u8 n] w fun e w' => e = .returned (.bool true) ∧ Below w.heap.size w w' := by
  go_enter Try.func10, Try.ntmps10
  go_wp2_with (go_at_call 29; refine (awake16' _).mono ?_; rintro e w5 ⟨rfl, hb5⟩)
  go_ret
  exact ⟨rfl, hb5⟩

theorem walk_SumTells (l : List UInt8) (hl : l.length ≤ maxLen) (k : Int) (hk : (Lit.int .u16 k).wf = true) (n : Int) (hn : (Lit.int .u8 n).wf = true) (w : World) :
    Calls Try.prog 10 #[.string ⟨l.toArray⟩, .int .u16 k, .int .u8 n] w fun e w' => e = .returned (.bool true) ∧ Below w.heap.size w w' := by
  by_cases h1 : (1000 : Int) < l.length
  · exact tells_over l h1 k n w
  by_cases h2 : l.isEmpty = true ∨ n = 0
  · exact tells_idle l h1 k n h2 w
  have b1 := bounds_u8 hn
  have b2 := bounds_u16 hk
  obtain ⟨j, rfl⟩ := Int.eq_ofNat_of_zero_le b2.1
  obtain ⟨m, rfl⟩ := Int.eq_ofNat_of_zero_le b1.1
  obtain ⟨c, rfl⟩ : ∃ c : UInt8, m = c.toNat := ⟨UInt8.ofNat m, by rw [UInt8.toNat_ofNat']; omega⟩
  refine tells_main l h1 ?_ j (by omega) c ?_ w
  · cases l with
    | nil => simp at h2
    | cons a l => simp
  · simp only [beq_eq_false_iff_ne, ne_eq]
    intro e
    exact h2 (.inr e)
end Go.Proofs.Ytfbdgahbhlapmaa
