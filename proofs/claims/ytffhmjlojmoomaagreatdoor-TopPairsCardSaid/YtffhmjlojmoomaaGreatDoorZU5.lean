/- Layer 4 (run): rows and pieces, walked. | Layer 4 (run): a piece as a row, walked. -/
import Derived.Test.YtffhmjlojmoomaaGreatDoorZU3
import Derived.Laws.StructEq

namespace Go.Proofs.YtffhmjlojmoomaaGreatDoor
open Go.RowKit
set_option linter.unusedVariables false
set_option linter.unusedSimpArgs false

/-- a row: codes one behind the other; its signs, if they are listed; the slice that holds them -/
structure Rv where
  fr : Nat
  ct : Nat
  tp : Nat
  sg : List Nat
  sa : Option Addr
  cp : Nat
def rvR (r : Rv) : List Value := [.int .i64 r.fr, .int .i64 r.ct, .int .i32 r.tp, .slice r.sa r.sg.length r.cp]
def rwS (r : Rv) : List Nat := if r.sg = [] then (List.range r.ct).map (r.tp + ·) else r.sg
def RvOk (w : World) (r : Rv) : Prop :=
  r.fr ≤ 1048576 ∧ r.ct ≤ 1048576 ∧ ((r.sg = [] ∧ r.sa = none ∧ r.cp = 0 ∧ r.tp + r.ct ≤ 1114112) ∨ (r.sg ≠ [] ∧ r.ct = r.sg.length ∧ ∃ b off, r.sa = some ⟨b, off, none⟩ ∧ r.sg.length ≤ r.cp ∧ b < w.heap.size ∧ ∀ i (h : i < r.sg.length), w.cell? ⟨b, off + i, none⟩ = some (.int .i32 (r.sg[i] : Nat))))
theorem RvOk.below {w w' : World} {r : Rv} (h : RvOk w r) (hb : Below w.heap.size w w') : RvOk w' r := by
  refine ⟨h.1, h.2.1, ?_⟩
  rcases h.2.2 with h0 | ⟨h1, h2, b, off, hv, hc, hlt, hcell⟩
  · exact .inl h0
  · exact .inr ⟨h1, h2, b, off, hv, hc, Nat.lt_of_lt_of_le hlt hb.size, fun i h => by rw [hb.cell (by exact hlt)]; exact hcell i h⟩
theorem rwS_len {w : World} {r : Rv} (h : RvOk w r) : (rwS r).length = r.ct := by
  unfold rwS
  rcases h.2.2 with ⟨h0, _⟩ | ⟨h1, h2, _⟩
  · rw [if_pos h0]; simp
  · rw [if_neg h1, h2]
set_option maxRecDepth 100000 in
theorem inside_yes (fr ct : Nat) (h1 : fr < 1048576) (h2 : 1 ≤ ct) (h3 : fr + ct ≤ 1048576) (w : World) : Calls Tryz.prog 128 #[.int .i64 fr, .int .i64 ct] w fun e w' => e = .returned (.bool true) ∧ w = w' := by
  have d0 : decide ((0 : Int) ≤ (fr : Int)) = true := decide_eq_true (by omega)
  have d1 : decide ((fr : Int) < 1048576) = true := decide_eq_true (by omega)
  have d2 : decide ((1 : Int) ≤ (ct : Int)) = true := decide_eq_true (by omega)
  have d3 : decide ((ct : Int) ≤ 1048576 - (fr : Int)) = true := decide_eq_true (by omega)
  go_enter Tryz.func128, Tryz.ntmps128
  go_wp2
  go_ret
  exact ⟨rfl, rfl⟩
set_option maxRecDepth 100000 in
theorem rend_any (r : Rv) (w : World) (h1 : r.fr ≤ 1048576) (h2 : r.ct ≤ 1048576) : Calls Tryz.prog 68 #[.agg #[.int .i64 r.fr, .int .i64 r.ct, .int .i32 r.tp, .slice r.sa r.sg.length r.cp]] w fun e w' => e = .returned (.int .i64 ((r.fr + r.ct : Nat) : Int)) ∧ Below w.heap.size w w' := by
  go_enter Tryz.func68, Tryz.ntmps68
  go_wp2
  go_ret
  exact ⟨ret_int (by simp), (Below.refl _ _).alloc (Nat.le_refl _) _⟩
set_option maxRecDepth 100000 in
theorem rsign_any (r : Rv) (k : Nat) (hk : k < r.ct) (w : World) (h : Hid (RvOk w r)) (hl : k < (rwS r).length) : Calls Tryz.prog 69 #[.agg #[.int .i64 r.fr, .int .i64 r.ct, .int .i32 r.tp, .slice r.sa r.sg.length r.cp], .int .i64 ((r.fr + k : Nat) : Int)] w fun e w' => e = .returned (.int .i32 ((rwS r)[k] : Nat)) ∧ Below w.heap.size w w' := by
  have K := Lib.hid ((Below.refl w.heap.size w).alloc (Nat.le_refl _) (.cells #[.int .i64 r.fr, .int .i64 r.ct, .int .i32 r.tp, .slice r.sa r.sg.length r.cp] 108))
  obtain ⟨b1, b2, hr⟩ := h.out
  obtain ⟨fr, ct, tp, sg, sa, cp⟩ := r
  simp only at b1 b2 hr hk
  have e1 : (fr : Int) + (k : Int) - (fr : Int) = (k : Int) := by omega
  have e2 : ((fr + k : Nat) : Int) = (fr : Int) + (k : Int) := by omega
  rcases hr with ⟨rfl, rfl, rfl, hto⟩ | ⟨hne, hct, b, off, rfl, hcap, hlt, hc⟩
  · have hE : Hid ((rwS ⟨fr, ct, tp, [], none, 0⟩)[k] = tp + k) := Lib.hid (by simp [rwS])
    have wk : IntKind.i32.wrap (k : Int) = k := by simp [IntKind.wrap, IntKind.bits, IntKind.signed]; omega
    have ws : IntKind.i32.wrap ((tp : Int) + (k : Int)) = (tp : Int) + (k : Int) := by simp [IntKind.wrap, IntKind.bits, IntKind.signed]; omega
    go_enter Tryz.func69, Tryz.ntmps69
    go_wp2
    go_ret
    exact ⟨by rw [hE.out]; congr 2, K.out⟩
  · have hkl : k < sg.length := by omega
    have hE : Hid ((rwS ⟨fr, ct, tp, sg, some ⟨b, off, none⟩, cp⟩)[k] = sg[k]) := Lib.hid (by
      have e : rwS ⟨fr, ct, tp, sg, some ⟨b, off, none⟩, cp⟩ = sg := by unfold rwS; exact if_neg hne
      simp only [e])
    have hki : (k : Int) < sg.length := by omega
    have hcb := (K.out.cell (p := ⟨b, off + k, none⟩) hlt).trans (hc k hkl)
    clear hc hct hne
    go_enter Tryz.func69, Tryz.ntmps69
    go_wp2
    go_ret
    exact ⟨by rw [hE.out]; rfl, K.out⟩
set_option maxRecDepth 100000 in
theorem seq_any (fr tp ct : Nat) (w : World) : Calls Tryz.prog 42 #[.int .i64 fr, .int .i32 tp, .int .i64 ct] w fun e w' => e = .returned (.agg #[.int .i64 fr, .int .i32 tp, .int .i64 ct, .string ⟨#[]⟩]) ∧ Below w.heap.size w w' := by
  go_enter Tryz.func42, Tryz.ntmps42
  go_wp2
  exact end_cell (by rfl) rfl (by rfl) (at_a0 _ _ _) Tryz.underlying69 rfl (by kernel_rfl) ⟨rfl, (Below.refl _ _).alloc (Nat.le_refl _) _⟩
set_option maxRecDepth 100000 in
theorem plist_any (fr : Nat) (t : List UInt8) (w : World) : Calls Tryz.prog 72 #[.int .i64 fr, .string ⟨t.toArray⟩] w fun e w' => e = .returned (.agg #[.int .i64 fr, .int .i32 0, .int .i64 0, .string ⟨t.toArray⟩]) ∧ Below w.heap.size w w' := by
  go_enter Tryz.func72, Tryz.ntmps72
  go_wp2
  exact end_cell (by rfl) rfl (by rfl) (at_a0 _ _ _) Tryz.underlying69 rfl (by kernel_rfl) ⟨rfl, (Below.refl _ _).alloc (Nat.le_refl _) _⟩
end Go.Proofs.YtffhmjlojmoomaaGreatDoor

namespace Go.Proofs.YtffhmjlojmoomaaGreatDoor
open Go.RowKit
set_option linter.unusedVariables false
set_option linter.unusedSimpArgs false

/-- a piece -/
structure Pie where
  fr : Nat
  tp : Nat
  ct : Nat
  tx : List Nat
def pieR (p : Pie) : List Value := [.int .i64 p.fr, .int .i32 p.tp, .int .i64 p.ct, .string ⟨(encs p.tx).toArray⟩]
/-- a piece that may be -/
def PieOk (p : Pie) : Prop := p.fr < 1048576 ∧ ((p.tx = [] ∧ 1 ≤ p.ct ∧ p.fr + p.ct ≤ 1048576 ∧ ((p.tp + p.ct ≤ 55296) ∨ (57344 ≤ p.tp ∧ p.tp + p.ct ≤ 1114112))) ∨ (p.tx ≠ [] ∧ p.fr + p.tx.length ≤ 1048576 ∧ ∀ q ∈ p.tx, Sc q))
/-- the row of a piece, its slice left open -/
def pieRow (p : Pie) (sa : Option Addr) (cp : Nat) : Rv := if p.tx = [] then ⟨p.fr, p.ct, p.tp, [], none, 0⟩ else ⟨p.fr, p.tx.length, 0, p.tx, sa, cp⟩
set_option maxHeartbeats 2000000 in
set_option maxRecDepth 100000 in
theorem prow_seq (fr tp ct : Nat) (h1 : fr < 1048576) (h2 : 1 ≤ ct) (h3 : fr + ct ≤ 1048576) (h4 : (tp + ct ≤ 55296) ∨ (57344 ≤ tp ∧ tp + ct ≤ 1114112)) (w : World) :
    Calls Tryz.prog 102 #[.agg #[.int .i64 fr, .int .i32 tp, .int .i64 ct, .string ⟨#[]⟩]] w fun e w' => e = .returned (.tuple #[.agg #[.int .i64 fr, .int .i64 ct, .int .i32 tp, .slice none 0 0], .bool true]) ∧ Below w.heap.size w w' := by
  have IN := Lib.hid (fun w => inside_yes fr ct h1 h2 h3 w)
  have S1 := Lib.hid (fun w => scalar_yes tp (by unfold Sc; omega) w)
  have S2 := Lib.hid (fun w => scalar_yes (tp + (ct - 1)) (by unfold Sc; omega) w)
  obtain ⟨l, hl⟩ : ∃ l, l = tp + (ct - 1) := ⟨_, rfl⟩
  rw [← hl] at S2
  have e1 : (ct : Int) - 1 = ((ct - 1 : Nat) : Int) := by omega
  have wc : IntKind.i32.wrap ((ct - 1 : Nat) : Int) = ((ct - 1 : Nat) : Int) := by simp [IntKind.wrap, IntKind.bits, IntKind.signed]; omega
  have ws : IntKind.i32.wrap ((tp : Int) + ((ct - 1 : Nat) : Int)) = (l : Int) := by rw [hl]; simp [IntKind.wrap, IntKind.bits, IntKind.signed]; omega
  have hb : (decide ((tp : Int) < 55296) = true ∧ decide ((l : Int) < 55296) = true) ∨ (decide ((tp : Int) < 55296) = false ∧ decide ((l : Int) < 55296) = false) := by
    rcases h4 with h4 | h4
    · exact .inl ⟨decide_eq_true (by omega), decide_eq_true (by omega)⟩
    · exact .inr ⟨decide_eq_false (by omega), decide_eq_false (by omega)⟩
  have HB := Lib.hid hb
  have hlb : (l : Int) ≤ 1114111 := by omega
  clear hl h4 hb
  generalize ct - 1 = c1 at *
  go_enter Tryz.func102, Tryz.ntmps102
  go_upto_region 7 with (fail)
  have P := Lib.hid (at_a1 w #[.int .i64 fr, .int .i32 tp, .int .i64 ct, .string ⟨#[]⟩] 69 (.cells #[.int .i64 0, .int .i64 0, .int .i32 0, .slice none 0 0] 108))
  have R := Lib.hid (at_a2 w #[.int .i64 0, .int .i64 0, .int .i32 0, .slice none 0 0] 108 (.cells #[.int .i64 fr, .int .i32 tp, .int .i64 ct, .string ⟨#[]⟩] 69))
  have K := Lib.hid (((Below.refl w.heap.size w).alloc (Nat.le_refl _) (.cells #[.int .i64 fr, .int .i32 tp, .int .i64 ct, .string ⟨#[]⟩] 69)).alloc (by simp) (.cells #[.int .i64 0, .int .i64 0, .int .i32 0, .slice none 0 0] 108))
  generalize (w.alloc (.cells #[.int .i64 fr, .int .i32 tp, .int .i64 ct, .string ⟨#[]⟩] 69)).alloc (.cells #[.int .i64 0, .int .i64 0, .int .i32 0, .slice none 0 0] 108) = w1 at *
  have HN := Lib.hid (show w.heap.size ≤ w.heap.size + 1 by omega)
  have hne : w.heap.size ≠ w.heap.size + 1 := by omega
  generalize w.heap.size + 1 = rb at *
  obtain ⟨hb1, hb2⟩ | ⟨hb1, hb2⟩ := HB.out
  · obtain ⟨x0, x1, x2, x3⟩ := cells4 (P.out)
    obtain ⟨y0, y1, y2, y3⟩ := cells4 (R.out); obtain ⟨yf0, yf1, yf2, yf3⟩ := frees4 (R.out)
    go_wp2_with (first | (go_at_call 128; (with_reducible refine (IN.out _).mono ?_); rintro e wx ⟨rfl, rfl⟩) | (go_at_call 70; (first | (with_reducible refine (S1.out _).mono ?_) | (with_reducible refine (S2.out _).mono ?_)); rintro e wx ⟨rfl, rfl⟩))
    refine end_cell_tmp (by rfl) rfl (by rfl) (store4 R.out rfl) Tryz.underlying108 rfl (by kernel_rfl) ?_
    exact ⟨rfl, (((K.out.setCell HN.out _).setCell HN.out _).setCell HN.out _).setCell HN.out _⟩
  · obtain ⟨x0, x1, x2, x3⟩ := cells4 (P.out)
    obtain ⟨y0, y1, y2, y3⟩ := cells4 (R.out); obtain ⟨yf0, yf1, yf2, yf3⟩ := frees4 (R.out)
    go_wp2_with (first | (go_at_call 128; (with_reducible refine (IN.out _).mono ?_); rintro e wx ⟨rfl, rfl⟩) | (go_at_call 70; (first | (with_reducible refine (S1.out _).mono ?_) | (with_reducible refine (S2.out _).mono ?_)); rintro e wx ⟨rfl, rfl⟩))
    refine end_cell_tmp (by rfl) rfl (by rfl) (store4 R.out rfl) Tryz.underlying108 rfl (by kernel_rfl) ?_
    exact ⟨rfl, (((K.out.setCell HN.out _).setCell HN.out _).setCell HN.out _).setCell HN.out _⟩
set_option maxHeartbeats 2000000 in
set_option maxRecDepth 100000 in
theorem prow_list (fr : Nat) (tx : List Nat) (hne : tx ≠ []) (hsc : Hid (∀ q ∈ tx, Sc q)) (h1 : fr < 1048576) (h3 : fr + tx.length ≤ 1048576) (w : World) (hT : Hid (Tabs w)) :
    Calls Tryz.prog 102 #[.agg #[.int .i64 fr, .int .i32 0, .int .i64 0, .string ⟨(encs tx).toArray⟩]] w fun e w' => ∃ v, e = .returned (.tuple #[.agg #[.int .i64 fr, .int .i64 tx.length, .int .i32 0, v], .bool true]) ∧ Recs w' w.heap.size 21 1 v (tx.map runR) ∧ Below w.heap.size w w' := by
  have hl1 : 1 ≤ tx.length := by
    have := List.length_pos_iff.2 hne
    omega
  have hel := encs_len tx
  have IN := Lib.hid (fun w => inside_yes fr tx.length h1 hl1 h3 w)
  have PC := Lib.hid (fun w hT => pcount_any tx hsc (by omega) w hT)
  have PP := Lib.hid (fun w hT => points_good tx hsc (by omega) w hT)
  have hn1 : (encs tx == []) = false := by
    have : encs tx ≠ [] := by
      obtain ⟨q, r, rfl⟩ := List.exists_cons_of_ne_nil hne
      exact dec_pos
    simpa using this
  have hn2 : (encs tx = []) = False := by simpa using hn1
  obtain ⟨t, ht⟩ : ∃ t, t = encs tx := ⟨_, rfl⟩
  rw [← ht] at PC PP hn1 hn2 hel
  rw [← ht]
  clear ht hne
  have P0 := Lib.hid (at_a1 w #[.int .i64 fr, .int .i32 0, .int .i64 0, .string ⟨t.toArray⟩] 69 (.cells #[.int .i64 0, .int .i64 0, .int .i32 0, .slice none 0 0] 108))
  have R0 := Lib.hid (at_a2 w #[.int .i64 0, .int .i64 0, .int .i32 0, .slice none 0 0] 108 (.cells #[.int .i64 fr, .int .i32 0, .int .i64 0, .string ⟨t.toArray⟩] 69))
  have K0 := Lib.hid (((Below.refl w.heap.size w).alloc (Nat.le_refl _) (.cells #[.int .i64 fr, .int .i32 0, .int .i64 0, .string ⟨t.toArray⟩] 69)).alloc (by simp) (.cells #[.int .i64 0, .int .i64 0, .int .i32 0, .slice none 0 0] 108))
  have T0 := Lib.hid (hT.out.below K0.out)
  have HZ0 : ((w.alloc (.cells #[.int .i64 fr, .int .i32 0, .int .i64 0, .string ⟨t.toArray⟩] 69)).alloc (.cells #[.int .i64 0, .int .i64 0, .int .i32 0, .slice none 0 0] 108)).heap.size = w.heap.size + 2 := by simp
  go_enter Tryz.func102, Tryz.ntmps102
  go_upto_region 1 with (fail)
  generalize (w.alloc (.cells #[.int .i64 fr, .int .i32 0, .int .i64 0, .string ⟨t.toArray⟩] 69)).alloc (.cells #[.int .i64 0, .int .i64 0, .int .i32 0, .slice none 0 0] 108) = w1 at *
  have P := P0
  have R := R0
  have K := K0
  have T := T0
  clear P0 R0 K0 T0
  have HZ := Lib.hid HZ0
  clear HZ0
  have HN := Lib.hid (show w.heap.size ≤ w.heap.size + 1 by omega)
  have hne : w.heap.size ≠ w.heap.size + 1 := by omega
  obtain ⟨rb, hrb⟩ : ∃ rb, rb = w.heap.size + 1 := ⟨_, rfl⟩
  rw [← hrb] at R HN hne
  rw [← hrb]
  have HRB := Lib.hid hrb
  clear hrb
  obtain ⟨qb, hqb⟩ : ∃ qb, qb = w.heap.size := ⟨_, rfl⟩
  rw [← hqb] at P hne
  rw [← hqb]
  have HQB := Lib.hid hqb
  clear hqb
  obtain ⟨x0, x1, x2, x3⟩ := cells4 (P.out)
  go_upto_region 5 with (first | (go_at_call 46; (with_reducible refine (PC.out _ T).mono ?_); rintro e w3 ⟨rfl, hb3⟩; replace P := Lib.hid (block_below P.out hb3); replace R := Lib.hid (block_below R.out hb3); replace T := Lib.hid (T.out.below hb3); replace K := Lib.hid (nextB K.out hb3); have hz3 := hb3.size; clear hb3 x0 x1 x2 x3; obtain ⟨y0, y1, y2, y3⟩ := cells4 (P.out)) | (go_at_call 128; (with_reducible refine (IN.out _).mono ?_); rintro e wx ⟨rfl, rfl⟩))
  go_upto_region 6 with (go_at_call 33; (with_reducible refine (PP.out _ T).mono ?_); rintro e w5 ⟨v, rfl, hv, hb5⟩; replace P := Lib.hid (block_below P.out hb5); replace R := Lib.hid (block_below R.out hb5); replace K := Lib.hid (nextB K.out hb5); have V := Lib.hid hv; have hz5 := hb5.size; clear hb5 hv y0 y1 y2 y3)
  have hB := (Below.refl w5.heap.size w5).alloc (Nat.le_refl _) (.cells #[.int .i64 0, .int .i64 0] 26)
  replace P := Lib.hid (block_below P.out hB)
  replace R := Lib.hid (block_below R.out hB)
  replace V := Lib.hid (V.out.below hB)
  replace K := Lib.hid (nextB K.out hB)
  clear hB
  generalize w5.alloc (.cells #[.int .i64 0, .int .i64 0] 26) = w6 at *
  obtain ⟨av, cv, hv, -, -⟩ := runes_of V.out
  subst hv
  obtain ⟨z0, z1, z2, z3⟩ := cells4 (P.out)
  obtain ⟨y0, y1, y2, y3⟩ := cells4 (R.out); obtain ⟨yf0, yf1, yf2, yf3⟩ := frees4 (R.out)
  go_wp2
  refine end_cell_tmp (by rfl) rfl (by rfl) (store4 R.out rfl) Tryz.underlying108 rfl (by kernel_rfl) ?_
  have hro : (Value.slice av tx.length cv).ownBlock ≠ some rb := fun e => by
    have h1 := (V.out.lt rb e).1
    have := HZ.out
    have := HRB.out
    omega
  have hset : Recs ((((w6.setCell ⟨rb, 0, none⟩ (.int .i64 fr)).setCell ⟨rb, 1, none⟩ (.int .i64 tx.length)).setCell ⟨rb, 2, none⟩ (.int .i32 0)).setCell ⟨rb, 3, none⟩ (.slice av tx.length cv)) w3.heap.size 21 1 (.slice av tx.length cv) (tx.map runR) :=
    V.out.kept (row := some rb) ((((Only.set (b := rb) _).trans (Only.set _)).trans (Only.set _)).trans (Only.set _)) (.inr hro)
  exact ⟨_, rfl, hset.base (by have := HZ.out; omega), (((K.out.setCell HN.out _).setCell HN.out _).setCell HN.out _).setCell HN.out _⟩
end Go.Proofs.YtffhmjlojmoomaaGreatDoor
