/- Layer 9 (charset): a reader that stands between signs. | Layer 9 (charset): a text's bytes in Big5, walked. -/
import Derived.Test.YtffhmjlojmoomaaGreatDoorZV3
import Derived.Test.YtffhmjlojmoomaaGreatDoorZOct2
import Derived.Test.YtffhmjlojmoomaaGreatDoorZB7

namespace Go.Proofs.YtffhmjlojmoomaaGreatDoor
open Go.RowKit
set_option linter.unusedVariables false
set_option linter.unusedSimpArgs false

def rdq (ps qs : List Nat) : Rd := ⟨encs ps, (encs qs).length, 0, 0, 0⟩
theorem rdq_len {ps qs rs : List Nat} (h : ps = qs ++ rs) : (encs ps).length = (encs qs).length + (encs rs).length := by rw [h, encs_app, List.length_append]
theorem rdq_ok {ps qs rs : List Nat} (h : ps = qs ++ rs) (hl : (encs ps).length ≤ 1000000) : (rdq ps qs).Ok := by
  have := rdq_len h
  unfold Rd.Ok rdq
  simp only
  omega
theorem rdq_drop {ps qs rs : List Nat} (h : ps = qs ++ rs) : (encs ps).drop (encs qs).length = encs rs := by rw [h, encs_app, List.drop_left]
theorem g_read (ps : List Nat) (w : World) : Calls Tryz.prog 47 #[.string ⟨(encs ps).toArray⟩] w fun e w' => e = .returned (.pointer (some ⟨w.heap.size, 0, none⟩)) ∧ RdAt w' w.heap.size (rdq ps []) ∧ Below w.heap.size w w' := read_any (encs ps) w
theorem g_left {ps qs rs : List Nat} (b : Nat) (h : ps = qs ++ rs) (hl : (encs ps).length ≤ 1000000) (w : World) (hr : RdAt w b (rdq ps qs)) : Calls Tryz.prog 48 #[.pointer (some ⟨b, 0, none⟩)] w fun e w' => e = .returned (.int .i64 ((encs rs).length : Nat)) ∧ Below w.heap.size w w' := by
  refine (left_any b _ w hr (rdq_ok h hl)).mono ?_
  rintro e w' ⟨he, hb⟩
  refine ⟨?_, hb⟩
  have := rdq_len h
  rw [he, show (rdq ps qs).left = ((encs rs).length : Nat) by
    unfold Rd.left rdq
    simp only [if_true]
    omega]
theorem g_at {ps qs rs : List Nat} (b : Nat) (h : ps = qs ++ rs) (hl : (encs ps).length ≤ 1000000) (w : World) (hr : RdAt w b (rdq ps qs)) : Calls Tryz.prog 49 #[.pointer (some ⟨b, 0, none⟩)] w fun e w' => e = .returned (.int .i64 ((encs qs).length : Nat)) ∧ w = w' := by
  refine (at_any b _ w hr (rdq_ok h hl)).mono ?_
  rintro e w' ⟨he, hb⟩
  refine ⟨?_, hb⟩
  rw [he]
  show Ending.returned (.int .i64 (0 + ((encs qs).length : Nat))) = _
  rw [Int.zero_add]
theorem peek_split (p : Nat) (rs : List Nat) : (encR p ++ encs rs).take 4 = encR p ++ (encs rs).take (4 - (encR p).length) := by
  have := encR_len p
  rw [List.take_append, List.take_of_length_le (by omega)]
theorem g_peek {ps qs rs : List Nat} (b p : Nat) (h : ps = qs ++ p :: rs) (hl : (encs ps).length ≤ 1000000) (w : World) (hr : RdAt w b (rdq ps qs)) : Calls Tryz.prog 51 #[.pointer (some ⟨b, 0, none⟩), .int .i64 4] w fun e w' => e = .returned (.string ⟨(encR p ++ (encs rs).take (4 - (encR p).length)).toArray⟩) ∧ Below w.heap.size w w' := by
  refine (peek_any b _ 4 w hr (rdq_ok h hl)).mono ?_
  rintro e w' ⟨he, hb⟩
  refine ⟨?_, hb⟩
  rw [he]
  have : (rdq ps qs).peek 4 = encR p ++ (encs rs).take (4 - (encR p).length) := by
    unfold Rd.peek rdq
    simp only [if_true]
    rw [rdq_drop h, encs_cons, ← peek_split]
    rfl
  rw [this]
theorem g_peek0 {ps qs : List Nat} (b : Nat) (h : ps = qs) (hl : (encs ps).length ≤ 1000000) (w : World) (hr : RdAt w b (rdq ps qs)) : Calls Tryz.prog 51 #[.pointer (some ⟨b, 0, none⟩), .int .i64 4] w fun e w' => e = .returned (.string ⟨([] : List UInt8).toArray⟩) ∧ Below w.heap.size w w' := by
  have h0 : ps = qs ++ [] := by rw [List.append_nil]; exact h
  refine (peek_any b _ 4 w hr (rdq_ok h0 hl)).mono ?_
  rintro e w' ⟨he, hb⟩
  refine ⟨?_, hb⟩
  rw [he]
  have : (rdq ps qs).peek 4 = [] := by
    unfold Rd.peek rdq
    simp only [if_true]
    rw [rdq_drop h0]
    rfl
  rw [this]
theorem g_take {ps qs rs : List Nat} (b p : Nat) (h : ps = qs ++ p :: rs) (hl : (encs ps).length ≤ 1000000) (w : World) (hr : RdAt w b (rdq ps qs)) : Calls Tryz.prog 52 #[.pointer (some ⟨b, 0, none⟩), .int .i64 ((encR p).length : Nat)] w fun e w' => e = .returned (.string ⟨(encR p).toArray⟩) ∧ RdAt w' b (rdq ps (qs ++ [p])) ∧ Only b w w' := by
  refine (take_any b _ ((encR p).length : Nat) w hr (rdq_ok h hl)).mono ?_
  have hn := rdq_len h
  rw [encs_cons, List.length_append] at hn
  have e : (rdq ps qs).take ((encR p).length : Nat) = (rdq ps (qs ++ [p]), encR p) := by
    unfold Rd.take rdq
    simp only [if_true]
    rw [if_neg (by omega), rdq_drop h, encs_cons]
    simp [encs_snoc, List.length_append]
  rw [e]
  rintro e w' ⟨he, hr2, ho⟩
  exact ⟨he, hr2, ho⟩
theorem g_dec {p : Nat} (hp : Sc p) (r : List UInt8) (w : World) (hT : Tabs w) : Calls Tryz.prog 50 #[.string ⟨(encR p ++ r).toArray⟩] w fun e w' => e = .returned (.tuple #[.int .i32 p, .int .i64 ((encR p).length : Nat)]) ∧ Below w.heap.size w w' := by
  have h := dg_any (encR p ++ r) dec_pos w hT
  rw [dec_enc hp] at h
  exact h
theorem g_dec0 (w : World) (hT : Tabs w) : Calls Tryz.prog 50 #[.string ⟨([] : List UInt8).toArray⟩] w fun e w' => e = .returned (.tuple #[.int .i32 65533, .int .i64 0]) ∧ Below w.heap.size w w' := Tryz.utf8_DecodeRuneInString ⟨([] : List UInt8).toArray⟩ w hT
def posOf (w : World) (b : Nat) : Nat := match w.cell? ⟨b, 1, none⟩ with
  | some (.int _ z) => z.toNat
  | _ => 0
theorem posOf_at {w : World} {b : Nat} {ps qs : List Nat} (h : RdAt w b (rdq ps qs)) : posOf w b = (encs qs).length := by
  unfold posOf
  rw [InAt.c1 h]
  rfl
/-- the bytes of signs, where two of them may have one code -/
def encG (by2 : Nat → List Nat → Option (Nat × Nat)) : List Nat → Option (List UInt8)
  | [] => some []
  | [p] => if p < 128 then some [UInt8.ofNat p] else match by2 p [] with
    | none => none
    | some x => some (bigL x.1 2)
  | p :: q :: ps => if p < 128 then (encG by2 (q :: ps)).map (UInt8.ofNat p :: ·) else match by2 p [q] with
    | none => none
    | some x => if x.2 = 2 then (encG by2 ps).map (bigL x.1 2 ++ ·) else (encG by2 (q :: ps)).map (bigL x.1 2 ++ ·)
theorem encG_sing (by2 : Nat → List Nat → Option (Nat × Nat)) (p : Nat) : encG by2 [p] = if p < 128 then some [UInt8.ofNat p] else match by2 p [] with
    | none => none
    | some x => some (bigL x.1 2) := by rw [encG]
theorem encG_low {by2 : Nat → List Nat → Option (Nat × Nat)} {p : Nat} {ps : List Nat} (h : p < 128) : encG by2 (p :: ps) = (encG by2 ps).map (UInt8.ofNat p :: ·) := by
  rcases ps with _ | ⟨q, ps⟩
  · rw [encG_sing, if_pos h]; simp [encG]
  · rw [encG, if_pos h]
theorem encG_no {by2 : Nat → List Nat → Option (Nat × Nat)} {p : Nat} {ps : List Nat} (h : ¬ p < 128) (hb : by2 p (ps.take 1) = none) : encG by2 (p :: ps) = none := by
  rcases ps with _ | ⟨q, ps⟩
  · rw [encG_sing, if_neg h]
    rw [show by2 p [] = none from hb]
  · rw [encG, if_neg h]
    rw [show by2 p [q] = none from hb]
theorem encG_one {by2 : Nat → List Nat → Option (Nat × Nat)} {p c n : Nat} {ps : List Nat} (h : ¬ p < 128) (hb : by2 p (ps.take 1) = some (c, n)) (hn : n ≠ 2 ∨ ps = []) : encG by2 (p :: ps) = (encG by2 ps).map (bigL c 2 ++ ·) := by
  rcases ps with _ | ⟨q, ps⟩
  · rw [encG_sing, if_neg h]
    rw [show by2 p [] = some (c, n) from hb]
    simp [encG]
  · rw [encG, if_neg h]
    rw [show by2 p [q] = some (c, n) from hb]
    simp only
    rw [if_neg (by rcases hn with h | h; exact h; cases h)]
theorem encG_two {by2 : Nat → List Nat → Option (Nat × Nat)} {p q c : Nat} {ps : List Nat} (h : ¬ p < 128) (hb : by2 p [q] = some (c, 2)) : encG by2 (p :: q :: ps) = (encG by2 ps).map (bigL c 2 ++ ·) := by
  rw [encG, if_neg h, hb]
  simp
theorem map_con {o : Option (List UInt8)} (a : List UInt8) (x : UInt8) : (o.map (x :: ·)).map (a ++ ·) = o.map ((a ++ [x]) ++ ·) := by
  rcases o with _ | l
  · rfl
  · simp
theorem map_app {o : Option (List UInt8)} (a b : List UInt8) : (o.map (b ++ ·)).map (a ++ ·) = o.map ((a ++ b) ++ ·) := by
  rcases o with _ | l
  · rfl
  · simp
end Go.Proofs.YtffhmjlojmoomaaGreatDoor

namespace Go.Proofs.YtffhmjlojmoomaaGreatDoor
open Go.RowKit
set_option linter.unusedVariables false
set_option linter.unusedSimpArgs false

theorem bytB_cases (C : Cst) (p : Nat) (r : List Nat) : bytB C p r = none ∨ (∃ c, bytB C p r = some (c, 1)) ∨ (∃ c, bytB C p r = some (c, 2) ∧ r ≠ []) := by
  unfold bytB
  rcases ht : twG p r twB with _ | s
  · rcases spanG p (spB C) with _ | c
    · exact .inl rfl
    · exact .inr (.inl ⟨c, rfl⟩)
  · refine .inr (.inr ⟨34816 + s, rfl, ?_⟩)
    rintro rfl
    have : ∀ L s, twG p [] L = some s → False := by
      intro L
      induction L with
      | nil => intro s h; cases h
      | cons x L ih =>
        intro s h
        unfold twG at h
        rw [if_neg (fun e => by cases e.2)] at h
        exact ih s h
    exact this _ _ ht
theorem recs_lit1 (w : World) (base e : Nat) (u : Value) (hb : base ≤ w.heap.size) : Recs (w.alloc (.cells #[u] e)) base e 1 (.slice (some ⟨w.heap.size, 0, none⟩) 1 1) [[u]] :=
  ⟨by intro r hr; obtain rfl : r = [u] := by simpa using hr
      rfl, rfl, .inr ⟨_, 1, #[u], rfl, hb, at_a0 _ _ _, Nat.le_refl _, by decide, rfl, rfl⟩⟩
theorem recs_rune {w : World} {base : Nat} {v : Value} {l : List Nat} (h : Recs w base 21 1 v (l.map runR)) (h0 : l ≠ []) : ∃ g cap, v = .slice (some ⟨g, 0, none⟩) l.length cap ∧ g < w.heap.size ∧ base ≤ g ∧ ∀ (i : Nat) (hi : i < l.length), w.cell? ⟨g, i, none⟩ = some (.int .i32 (l[i] : Nat)) := by
  rcases h.2.2 with ⟨rfl, h1⟩ | ⟨g, cap, cur, rfl, hb, hg, hn, hc, hcs, ht⟩
  · exfalso
    rw [List.length_map] at h1
    exact h0 (List.eq_nil_of_length_eq_zero h1)
  · refine ⟨g, cap, by rw [List.length_map], (Array.getElem?_eq_some_iff.1 hg).1, hb, fun i hi => ?_⟩
    rw [cell_at hg]
    have hfl : ((l.map runR).flatten) = l.map (fun p => Value.int .i32 (p : Nat)) := by
      clear ht hn hg h h0 hi
      induction l with
      | nil => rfl
      | cons p l ih => rw [List.map_cons, List.flatten_cons, ih]; rfl
    rw [hfl] at ht
    have h2 := congrArg (fun L => L[i]?) ht
    simp only [List.getElem?_take, List.getElem?_map] at h2
    rw [if_pos (by rw [List.length_map]; omega), List.getElem?_eq_getElem hi] at h2
    simpa using h2
set_option maxHeartbeats 4000000 in
set_option maxRecDepth 100000 in
theorem cenc5_any (C : Cst) (hC : Hid (CstOk C)) (t : List UInt8) (ht : t.length ≤ 1000000) (w : World) (hT : Hid (Tabs w)) (m : Int) (hm : Hid (Mx m w)) : Calls Tryz.prog 20 #[.string ⟨t.toArray⟩] w fun e w' => ∃ (b : List UInt8) (cd pl : Int), e = .returned (.tuple #[.string ⟨b.toArray⟩, .agg #[.int .i64 cd, .int .i64 pl]]) ∧ ((¬ Good t ∧ b = [] ∧ cd = 2) ∨ ∃ ps, (∀ p ∈ ps, Sc p) ∧ t = encs ps ∧ ((encG (bytB C) ps = some b ∧ cd = 0 ∧ pl = 0) ∨ (encG (bytB C) ps = none ∧ b = [] ∧ cd = 6))) ∧ Below w.heap.size w w' := by
  have PC := Lib.hid (fun w h => pcheck_two t (by omega) w h)
  have F := Lib.hid (at_a0 w #[.int .i64 0, .int .i64 0] 26)
  have K := Lib.hid ((Below.refl w.heap.size w).alloc (Nat.le_refl _) (.cells #[.int .i64 0, .int .i64 0] 26))
  obtain ⟨rb, hrb⟩ : ∃ rb, rb = w.heap.size := ⟨_, rfl⟩
  go_enter Tryz.func20, Tryz.ntmps20
  go_upto_region 1 with (fail)
  generalize w.alloc (.cells #[.int .i64 0, .int .i64 0] 26) = w0 at *
  rw [← hrb] at F
  rw [← hrb]
  have HRB := Lib.hid hrb
  clear hrb
  have HT0 := Lib.hid (hT.out.below K.out)
  go_upto_region 2 with (go_at_call 21; (with_reducible refine (PC.out _ HT0).mono ?_); rintro e w1 ⟨cd, fa, rfl, hcd, hb1⟩; have HCD := Lib.hid hcd.out; replace F := Lib.hid (block_below F.out hb1); replace K := Lib.hid (nextB K.out hb1); clear hcd hb1)
  have CK := Lib.hid (at_a0 w1 #[.int .i64 cd, .int .i64 fa] 26)
  have hB := (Below.refl w1.heap.size w1).alloc (Nat.le_refl _) (.cells #[.int .i64 cd, .int .i64 fa] 26)
  have hrc : rb < w1.heap.size := (Array.getElem?_eq_some_iff.1 F.out).1
  replace F := Lib.hid (block_below F.out hB)
  replace K := Lib.hid (nextB K.out hB)
  clear hB
  generalize w1.alloc (.cells #[.int .i64 cd, .int .i64 fa] 26) = w2 at *
  generalize w1.heap.size = cb at *
  have BD := Lib.hid (fun w => bad_any cd fa w)
  rcases HCD.out with ⟨hgood, rfl, rfl⟩ | ⟨hbad, rfl⟩
  · rw [show ((0 : Int) != 0) = false by rfl] at BD
    obtain ⟨ps, hps, rfl⟩ := hgood
    have HPS := Lib.hid hps
    clear hps HCD PC
    obtain ⟨y0, y1⟩ := cells2 (CK.out)
    go_upto_region 4 with (go_at_call 7; (with_reducible refine (BD.out _).mono ?_); rintro e w3 ⟨rfl, hb3⟩; replace F := Lib.hid (block_below F.out hb3); replace K := Lib.hid (nextB K.out hb3); clear hb3 y0 y1 CK)
    have GR := Lib.hid (fun w => g_read ps w)
    have hmb9 : rb < w3.heap.size := (Array.getElem?_eq_some_iff.1 F.out).1
    go_upto_region 6 with (go_at_call 47; (with_reducible refine (GR.out _).mono ?_); rintro e w4 ⟨rfl, hr4, hb4⟩; have R := Lib.hid hr4; replace F := Lib.hid (block_below F.out hb4); replace K := Lib.hid (nextB K.out hb4); clear hb4 hr4)
    generalize w3.heap.size = ib at *
    clear GR
    go_loopw [5] (fun v wr => ∃ (qs rs : List Nat) (bs : List UInt8), Hid (ps = qs ++ rs) ∧ Hid (encG (bytB C) ps = (encG (bytB C) rs).map (bs ++ ·)) ∧ bs.length ≤ 2 * (encs qs).length ∧ Hid (RdAt wr ib (rdq ps qs)) ∧ Hid (wr.heap[rb]? = some (.cells #[.int .i64 0, .int .i64 0] 26 (0, 0))) ∧ Hid (Buf wr (ib + 1) 5 v bs) ∧ Hid (Below w.heap.size w wr)) (fun _ wr => (encs ps).length - posOf wr ib)
    case atStart => exact ⟨[], ps, [], Lib.hid rfl, Lib.hid (by simp), by simp, R, F, Lib.hid (Buf.nil _ _ _), K⟩
    case round =>
      clear R F K HT0
      obtain ⟨qs, rs, bs, HP, HE, hbl, R, F, V, K⟩ := hrel
      have LF := Lib.hid (fun w h => g_left ib HP.out ht w h)
      rcases rs with _ | ⟨p, rs⟩
      · have HE2 : Hid (encG (bytB C) ps = some bs) := Lib.hid (by rw [HE.out]; simp [encG])
        go_upto_region 23 with (go_at_call 48; (with_reducible refine (LF.out _ R.out).mono ?_); rintro e w5 ⟨rfl, hb5⟩; have V5 := Lib.hid (V.out.below hb5); have F5 := Lib.hid (block_below F.out hb5); replace K := Lib.hid (nextB K.out hb5); clear hb5)
        have hcv := ownsRow_bytes (P := Tryz.prog) (src := 35) (dst := 9) (show World.ownsRow _ _ _ _ _ _ _ from V5.out) Tryz.underlying35 Tryz.underlying5 Tryz.underlying9
        obtain ⟨y0, y1⟩ := cells2 (F5.out); obtain ⟨yf0, yf1⟩ := frees2 (F5.out)
        go_wp2
        have hw1 : w.heap.size ≤ rb := by have := HRB.out; omega
        refine end_tmp_cell (by rfl) rfl (by rfl) (store2 F5.out rfl) Tryz.underlying26 rfl (by kernel_rfl) ?_
        exact ⟨bs, 0, 0, rfl, .inr ⟨ps, HPS.out, rfl, .inl ⟨HE2.out, rfl, rfl⟩⟩, (K.out.setCell hw1 _).setCell hw1 _⟩
      · have hsc := HPS.out p (by rw [HP.out]; simp)
        have hp9 : (p : Int) ≤ 1114111 := by unfold Sc at hsc; omega
        obtain ⟨zl, hzl⟩ : ∃ zl : Nat, zl = (encs (p :: rs)).length := ⟨_, rfl⟩
        have hz0 : (0 : Int) < zl := by
          have := encR_len p
          rw [hzl, encs_cons, List.length_append]
          omega
        rw [← hzl] at LF
        clear hzl
        have AT := Lib.hid (fun w h => g_at ib HP.out ht w h)
        have PK := Lib.hid (fun w h => g_peek ib p HP.out ht w h)
        have DC := Lib.hid (fun r w h => g_dec hsc r w h)
        have TK := Lib.hid (fun w h => g_take ib p HP.out ht w h)
        have hlp := encR_len p
        have HLQ : Hid ((encs (qs ++ [p])).length = (encs qs).length + (encR p).length ∧ (encs (qs ++ [p])).length + (encs rs).length = (encs ps).length) := Lib.hid (by
          rw [encs_snoc, List.length_append]
          refine ⟨rfl, ?_⟩
          rw [rdq_len HP.out, encs_cons, List.length_append]
          omega)
        have HPO := Lib.hid (posOf_at R.out)
        have HN1 : Hid (∀ v wr' bs, encG (bytB C) ps = (encG (bytB C) rs).map (bs ++ ·) → bs.length ≤ 2 * (encs (qs ++ [p])).length → RdAt wr' ib (rdq ps (qs ++ [p])) → wr'.heap[rb]? = some (.cells #[.int .i64 0, .int .i64 0] 26 (0, 0)) → Buf wr' (ib + 1) 5 v bs → Below w.heap.size w wr' → (∃ (qs rs : List Nat) (bs : List UInt8), Hid (ps = qs ++ rs) ∧ Hid (encG (bytB C) ps = (encG (bytB C) rs).map (bs ++ ·)) ∧ bs.length ≤ 2 * (encs qs).length ∧ Hid (RdAt wr' ib (rdq ps qs)) ∧ Hid (wr'.heap[rb]? = some (.cells #[.int .i64 0, .int .i64 0] 26 (0, 0))) ∧ Hid (Buf wr' (ib + 1) 5 v bs) ∧ Hid (Below w.heap.size w wr')) ∧ (encs ps).length - posOf wr' ib < (encs ps).length - posOf wr ib) := Lib.hid (fun v wr' bs h1 h2 h3 h4 h5 h6 => ⟨⟨qs ++ [p], rs, bs, Lib.hid (by rw [List.append_assoc]; exact HP.out), Lib.hid h1, h2, Lib.hid h3, Lib.hid h4, Lib.hid h5, Lib.hid h6⟩, by rw [posOf_at h3, HPO.out]; have := HLQ.out; omega⟩)
        obtain ⟨lp, hlpe⟩ : ∃ lp, lp = (encR p).length := ⟨_, rfl⟩
        rw [← hlpe] at hlp
        have HLP := Lib.hid hlpe
        have DC2 : Hid (∀ r w, Tabs w → Calls Tryz.prog 50 #[.string ⟨(encR p ++ r).toArray⟩] w fun e w' => e = .returned (.tuple #[.int .i32 p, .int .i64 (lp : Nat)]) ∧ Below w.heap.size w w') := Lib.hid (fun r w h => by rw [hlpe]; exact DC.out r w h)
        have TK2 : Hid (∀ w, RdAt w ib (rdq ps qs) → Calls Tryz.prog 52 #[.pointer (some ⟨ib, 0, none⟩), .int .i64 (lp : Nat)] w fun e w' => e = .returned (.string ⟨(encR p).toArray⟩) ∧ RdAt w' ib (rdq ps (qs ++ [p])) ∧ Only ib w w') := Lib.hid (fun w h => by rw [hlpe]; exact TK.out w h)
        clear hlpe DC TK
        have hwib : rb < ib := by
          rcases Nat.lt_or_ge rb ib with h | h
          · exact h
          · exact absurd hmb9 (by omega)
        go_upto_region 10 with (first | (go_at_call 48; (with_reducible refine (LF.out _ R.out).mono ?_); rintro e w5 ⟨rfl, hb5⟩; replace R := Lib.hid (R.out.below hb5); replace V := Lib.hid (V.out.below hb5); replace F := Lib.hid (block_below F.out hb5); replace K := Lib.hid (nextB K.out hb5); clear hb5) | (go_at_call 49; (with_reducible refine (AT.out _ R.out).mono ?_); rintro e w5' ⟨rfl, rfl⟩) | (go_at_call 51; (with_reducible refine (PK.out _ R.out).mono ?_); rintro e w6 ⟨rfl, hb6⟩; replace R := Lib.hid (R.out.below hb6); replace V := Lib.hid (V.out.below hb6); replace F := Lib.hid (block_below F.out hb6); replace K := Lib.hid (nextB K.out hb6); clear hb6) | (go_at_call 50; (with_reducible refine (DC2.out _ _ (hT.out.below K.out)).mono ?_); rintro e w7 ⟨rfl, hb7⟩; replace R := Lib.hid (R.out.below hb7); replace V := Lib.hid (V.out.below hb7); replace F := Lib.hid (block_below F.out hb7); replace K := Lib.hid (nextB K.out hb7); clear hb7) | (go_at_call 52; (with_reducible refine (TK2.out _ R.out).mono ?_); rintro e w8 ⟨rfl, hr8, ho8⟩; replace F := Lib.hid (block_only F.out ho8 (by omega)); replace V := Lib.hid (V.out.kept ho8 (.inr (fun e => by have := (V.out.lt ib e).1; omega))); replace K := Lib.hid (onlyB K.out ho8 (by have := HRB.out; omega)); replace R := Lib.hid hr8; clear hr8 ho8))
        clear LF AT PK DC2 TK2
        obtain ⟨pq, hpq⟩ : ∃ pq, pq = (encs qs).length := ⟨_, rfl⟩
        rw [← hpq] at hbl
        rw [← hpq]
        have HPQ := Lib.hid hpq
        clear hpq
        have hib8 : ib < w8.heap.size := R.out.lt
        have hwb : ib + 1 ≤ w8.heap.size := hib8
        have hbs9 : bs.length ≤ 2000000 := by have := HLQ.out; have := HPQ.out; omega
        by_cases hlow : p < 128
        · have g0 : (p : Int) < 128 := by omega
          have HE2 : Hid (encG (bytB C) ps = (encG (bytB C) rs).map ((bs ++ [UInt8.ofNat p]) ++ ·)) := Lib.hid (by rw [HE.out, encG_low hlow, map_con])
          have HU8 := Lib.hid (show (p : Int) = ((UInt8.ofNat p).toNat : Int) by rw [UInt8.toNat_ofNat', Nat.mod_eq_of_lt (by omega)])
          have hu8 : IntKind.u8.wrap (p : Int) = ((UInt8.ofNat p).toNat : Int) := by
            rw [← HU8.out]
            simp [IntKind.wrap, IntKind.bits, IntKind.signed]
            omega
          have L5 := Lib.hid V.out.lt
          clear hlow
          go_upto_region 11 with (fail)
          go_wp2_with (at_builtin; refine wpList_push w8 rfl (.tmp 38) (.tmp 41) 35 rfl (ib + 1) 5 Tryz.underlying35 info_u8' _ bs (UInt8.ofNat p) _ (by first | rfl | (rw [← hu8]; rfl) | exact congrArg (Value.int .u8) HU8.out) (by rfl) V.out (by rfl) (by omega) hwb _ ?_; intro v9 w9 hr9 hg9; have V9 := Lib.hid hr9; have HG9 := Lib.hid hg9; clear hr9 hg9)
          have KG := Lib.hid (pk_grown (Below.refl (ib + 1) w8) HG9.out (fun k e => (L5.out k e).1) hwb)
          exact HN1.out _ _ _ HE2.out (by have := HLQ.out; have := HPQ.out; have := HLP.out; simp; omega) ((KG.out.block ib (by omega)).trans R.out) ((KG.out.block rb (by omega)).trans F.out) V9.out (K.out.trans (KG.out.mono (by have := HRB.out; omega)))
        · have g0 : ¬ (p : Int) < 128 := by omega
          have HPL := Lib.hid hlow
          clear hlow
          go_upto_region 13 with (fail)
          have RL : Hid (Recs (w8.alloc (.cells #[.int .i32 (p : Nat)] 21)) w8.heap.size 21 1 (.slice (some ⟨w8.heap.size, 0, none⟩) 1 1) ([p].map runR)) := Lib.hid (recs_lit1 w8 w8.heap.size 21 (.int .i32 (p : Nat)) (Nat.le_refl _))
          have P := Lib.hid (at_a0 w8 #[.int .i32 (p : Nat)] 21)
          have HVS : Hid (∀ k, u5.ownBlock = some k → k < w8.heap.size) := Lib.hid (fun k e => (V.out.lt k e).2)
          have hB := (Below.refl w8.heap.size w8).alloc (Nat.le_refl _) (.cells #[.int .i32 (p : Nat)] 21)
          replace R := Lib.hid (R.out.below hB)
          replace V := Lib.hid (V.out.below hB)
          replace F := Lib.hid (block_below F.out hB)
          replace K := Lib.hid (nextB K.out hB)
          have hlb : w8.heap.size < (w8.alloc (.cells #[.int .i32 (p : Nat)] 21)).heap.size := by simp
          clear hB
          generalize w8.alloc (.cells #[.int .i32 (p : Nat)] 21) = w9 at *
          generalize w8.heap.size = lb at *
          rcases rs with _ | ⟨q, rs⟩
          · have PK := Lib.hid (fun w h => g_peek0 (ps := ps) (qs := qs ++ [p]) ib HP.out ht w h)
            have BB := Lib.hid (fun w h1 h2 h3 => bbytes_any C hC p [] (by simp) hp9 1 1 lb rfl w h1 h2 (Lib.hid (fun q e => by cases e)) m h3)
            have DC := Lib.hid (fun w h => g_dec0 w h)
            go_upto_region 16 with (first | (go_at_call 51; (with_reducible refine (PK.out _ R.out).mono ?_); rintro e w6 ⟨rfl, hb6⟩; replace R := Lib.hid (R.out.below hb6); replace V := Lib.hid (V.out.below hb6); replace F := Lib.hid (block_below F.out hb6); replace K := Lib.hid (nextB K.out hb6); replace P := Lib.hid (block_below P.out hb6); replace hlb := Nat.lt_of_lt_of_le hlb hb6.size; clear hb6) | (go_at_call 50; (with_reducible refine (DC.out _ (hT.out.below K.out)).mono ?_); rintro e w7 ⟨rfl, hb6⟩; replace R := Lib.hid (R.out.below hb6); replace V := Lib.hid (V.out.below hb6); replace F := Lib.hid (block_below F.out hb6); replace K := Lib.hid (nextB K.out hb6); replace P := Lib.hid (block_below P.out hb6); replace hlb := Nat.lt_of_lt_of_le hlb hb6.size; clear hb6))
            have c0 : Hid (w7.cell? ⟨lb, 0, none⟩ = some (.int .i32 (p : Nat))) := Lib.hid (by rw [cell_at P.out]; rfl)
            have B0 := Lib.hid (BB.out w7 (Lib.hid hlb) c0 (Lib.hid (hm.out.below K.out)))
            have HG0 := Lib.hid (fun h => encG_no (by2 := bytB C) (p := p) (ps := []) HPL.out h)
            have HG1 := Lib.hid (fun c n h => encG_one (by2 := bytB C) (p := p) (c := c) (n := n) (ps := []) HPL.out h (.inr rfl))
            clear BB PK DC P c0 RL
            rcases hBy : bytB C p [] with _ | ⟨c, n⟩
            · rw [hBy] at B0
              have B1 : Hid (Calls Tryz.prog 40 #[.slice (some ⟨lb, 0, none⟩) 1 1] w7 fun e w' => e = .returned (.tuple #[.string ⟨([] : List UInt8).toArray⟩, .int .i64 0]) ∧ Below w7.heap.size w7 w') := B0
              have HN : Hid (encG (bytB C) ps = none) := Lib.hid (by rw [HE.out, HG0.out hBy]; rfl)
              clear hBy HG0 HG1 HE HN1 HVS B0
              go_wp2_with (go_at_call 40; (with_reducible refine B1.out.mono ?_); rintro e wb ⟨rfl, hb6⟩; replace R := Lib.hid (R.out.below hb6); replace V := Lib.hid (V.out.below hb6); replace F := Lib.hid (block_below F.out hb6); replace K := Lib.hid (nextB K.out hb6); clear hb6; obtain ⟨f0, f1⟩ := cells2 (F.out); obtain ⟨ff0, ff1⟩ := frees2 (F.out))
              have hw1 : w.heap.size ≤ rb := by have := HRB.out; omega
              refine end_tmp_cell (by rfl) rfl (by rfl) (store2 F.out rfl) Tryz.underlying26 rfl (by kernel_rfl) ?_
              exact ⟨[], 6, pq, rfl, .inr ⟨ps, HPS.out, rfl, .inr ⟨HN.out, rfl, rfl⟩⟩, (K.out.setCell hw1 _).setCell hw1 _⟩
            · have hn : n = 1 := by
                rcases bytB_cases C p [] with h | ⟨c', h⟩ | ⟨c', h, hne⟩
                · rw [hBy] at h; cases h
                · rw [hBy] at h; injection h with h; injection h
                · exact absurd rfl hne
              subst hn
              rw [hBy] at B0
              have HE2 : Hid (encG (bytB C) ps = (encG (bytB C) []).map ((bs ++ bigL c 2) ++ ·)) := Lib.hid (by rw [HE.out, HG1.out c 1 hBy, map_app])
              obtain ⟨z, hz⟩ : ∃ z, z = bigL c 2 := ⟨_, rfl⟩
              have hzl : z.length = 2 := by rw [hz]; rfl
              have B1 : Hid (Calls Tryz.prog 40 #[.slice (some ⟨lb, 0, none⟩) 1 1] w7 fun e w' => e = .returned (.tuple #[.string ⟨z.toArray⟩, .int .i64 1]) ∧ Below w7.heap.size w7 w') := by rw [hz]; exact B0
              rw [← hz] at HE2
              clear hBy HG0 HG1 HE HVS B0 hz
              go_wp2_with (first | (go_at_call 40; (with_reducible refine B1.out.mono ?_); rintro e wb ⟨rfl, hb6⟩; have hwbb : ib + 1 ≤ wb.heap.size := (Nat.le_trans (Nat.le_trans hwb (Nat.le_of_lt hlb)) hb6.size); replace R := Lib.hid (R.out.below hb6); replace V := Lib.hid (V.out.below hb6); replace F := Lib.hid (block_below F.out hb6); replace K := Lib.hid (nextB K.out hb6); have L5 := Lib.hid V.out.lt; clear hb6) | (at_builtin; refine wpList_pushS wb rfl (.tmp 72) (.tmp 73) 35 9 rfl (ib + 1) 5 Tryz.underlying35 Tryz.underlying9 info_u8' _ bs z rfl V.out (by rfl) (by omega) hwbb ?_; intro v9 w11 hr9 hg9; have V9 := Lib.hid hr9; have HG9 := Lib.hid hg9; clear hr9 hg9))
              have KG := Lib.hid (pk_grown (Below.refl (ib + 1) wb) HG9.out (fun k e => (L5.out k e).1) hwbb)
              exact HN1.out _ _ _ HE2.out (by have := HLQ.out; have := HPQ.out; have := HLP.out; simp; omega) ((KG.out.block ib (by omega)).trans R.out) ((KG.out.block rb (by omega)).trans F.out) V9.out (K.out.trans (KG.out.mono (by have := HRB.out; omega)))
          · have hsq := HPS.out q (by rw [HP.out]; simp)
            have hq9 : (q : Int) ≤ 1114111 := by unfold Sc at hsq; omega
            have HP2 : Hid (ps = (qs ++ [p]) ++ q :: rs) := Lib.hid (by rw [List.append_assoc]; exact HP.out)
            have PK := Lib.hid (fun w h => g_peek ib q HP2.out ht w h)
            obtain ⟨lq, hlqe⟩ : ∃ lq, lq = (encR q).length := ⟨_, rfl⟩
            have hlq := encR_len q
            rw [← hlqe] at hlq
            have DC : Hid (∀ r w, Tabs w → Calls Tryz.prog 50 #[.string ⟨(encR q ++ r).toArray⟩] w fun e w' => e = .returned (.tuple #[.int .i32 q, .int .i64 (lq : Nat)]) ∧ Below w.heap.size w w') := Lib.hid (fun r w h => by rw [hlqe]; exact g_dec hsq r w h)
            have TK : Hid (∀ w, RdAt w ib (rdq ps (qs ++ [p])) → Calls Tryz.prog 52 #[.pointer (some ⟨ib, 0, none⟩), .int .i64 (lq : Nat)] w fun e w' => e = .returned (.string ⟨(encR q).toArray⟩) ∧ RdAt w' ib (rdq ps ((qs ++ [p]) ++ [q])) ∧ Only ib w w') := Lib.hid (fun w h => by rw [hlqe]; exact g_take ib q HP2.out ht w h)
            have HLQ2 : Hid ((encs ((qs ++ [p]) ++ [q])).length = (encs (qs ++ [p])).length + lq ∧ (encs ((qs ++ [p]) ++ [q])).length + (encs rs).length = (encs ps).length) := Lib.hid (by
              rw [encs_snoc (qs ++ [p]), List.length_append, ← hlqe]
              refine ⟨rfl, ?_⟩
              rw [rdq_len HP2.out, encs_cons, List.length_append]
              omega)
            clear hlqe
            have q0 : (0 : Int) < lq := by omega
            go_upto_region 16 with (first | (go_at_call 51; (with_reducible refine (PK.out _ R.out).mono ?_); rintro e w6 ⟨rfl, hb6⟩; replace R := Lib.hid (R.out.below hb6); replace V := Lib.hid (V.out.below hb6); replace F := Lib.hid (block_below F.out hb6); replace K := Lib.hid (nextB K.out hb6); replace RL := Lib.hid (RL.out.below hb6); replace hlb := Nat.lt_of_lt_of_le hlb hb6.size; clear hb6) | (go_at_call 50; (with_reducible refine (DC.out _ _ (hT.out.below K.out)).mono ?_); rintro e w7 ⟨rfl, hb6⟩; replace R := Lib.hid (R.out.below hb6); replace V := Lib.hid (V.out.below hb6); replace F := Lib.hid (block_below F.out hb6); replace K := Lib.hid (nextB K.out hb6); replace RL := Lib.hid (RL.out.below hb6); replace hlb := Nat.lt_of_lt_of_le hlb hb6.size; clear hb6) | (at_builtin; refine wpList_pushR w7 rfl (.tmp 53) (.tmp 55) 58 rfl lb 21 1 4 _ Tryz.underlying58 info_runes rfl (by decide) (by decide) _ ([p].map runR) (runR q) _ rfl rfl (one_runR q) (by rfl) RL.out (by rfl) (by simp) (Nat.le_of_lt hlb) _ ?_; intro v8 w10 hr8 hg8; have RL8 := Lib.hid hr8; have HG8 := Lib.hid hg8; clear hr8 hg8))
            obtain ⟨lg, lcap, hv8, hlg, hlg2, hcells⟩ := recs_rune (l := [p, q]) (show Recs w10 lb 21 1 v8 ([p, q].map runR) from RL8.out) (by simp)
            have hc0 := hcells 0 (by simp)
            have hc1 := hcells 1 (by simp)
            have KG8 := Lib.hid (pk_grown (Below.refl lb w7) HG8.out (fun k e => by simp [Value.ownBlock] at e; omega) (Nat.le_of_lt hlb))
            have hlbw : w.heap.size ≤ lb := by have := HRB.out; omega
            replace V := Lib.hid (V.out.kept HG8.out (.inr (fun e => by have := HVS.out lb e; omega)))
            replace R : Hid (RdAt w10 ib (rdq ps (qs ++ [p]))) := Lib.hid ((KG8.out.block ib (by omega)).trans R.out)
            replace F := Lib.hid ((KG8.out.block rb (by omega)).trans F.out)
            replace K := Lib.hid (K.out.trans (KG8.out.mono hlbw))
            have hwb10 : ib + 1 ≤ w10.heap.size := Nat.le_trans (Nat.le_trans hwb (Nat.le_of_lt hlb)) KG8.out.size
            have B0 := Lib.hid (bbytes_any C hC p [q] (by simp) hp9 2 lcap lg rfl w10 (Lib.hid hlg) (Lib.hid hc0) (Lib.hid (fun q' e => by injection e with e; subst e; exact hc1)) m (Lib.hid (hm.out.below K.out)))
            subst hv8
            have HG0 := Lib.hid (fun h => encG_no (by2 := bytB C) (p := p) (ps := q :: rs) HPL.out h)
            have HG1 := Lib.hid (fun c h => encG_one (by2 := bytB C) (p := p) (c := c) (n := 1) (ps := q :: rs) HPL.out h (.inl (by decide)))
            have HG2 := Lib.hid (fun c h => encG_two (by2 := bytB C) (p := p) (q := q) (c := c) (ps := rs) HPL.out h)
            have HN2 : Hid (∀ v wr' bs, encG (bytB C) ps = (encG (bytB C) rs).map (bs ++ ·) → bs.length ≤ 2 * (encs ((qs ++ [p]) ++ [q])).length → RdAt wr' ib (rdq ps ((qs ++ [p]) ++ [q])) → wr'.heap[rb]? = some (.cells #[.int .i64 0, .int .i64 0] 26 (0, 0)) → Buf wr' (ib + 1) 5 v bs → Below w.heap.size w wr' → (∃ (qs rs : List Nat) (bs : List UInt8), Hid (ps = qs ++ rs) ∧ Hid (encG (bytB C) ps = (encG (bytB C) rs).map (bs ++ ·)) ∧ bs.length ≤ 2 * (encs qs).length ∧ Hid (RdAt wr' ib (rdq ps qs)) ∧ Hid (wr'.heap[rb]? = some (.cells #[.int .i64 0, .int .i64 0] 26 (0, 0))) ∧ Hid (Buf wr' (ib + 1) 5 v bs) ∧ Hid (Below w.heap.size w wr')) ∧ (encs ps).length - posOf wr' ib < (encs ps).length - posOf wr ib) := Lib.hid (fun v wr' bs h1 h2 h3 h4 h5 h6 => ⟨⟨(qs ++ [p]) ++ [q], rs, bs, Lib.hid (by rw [List.append_assoc]; exact HP2.out), Lib.hid h1, h2, Lib.hid h3, Lib.hid h4, Lib.hid h5, Lib.hid h6⟩, by rw [posOf_at h3, HPO.out]; have := HLQ.out; have := HLQ2.out; omega⟩)
            have HZ0 := Lib.hid hlg
            clear hc0 hc1 hcells hlg KG8 HG8 RL8 RL PK DC hlg2
            rcases bytB_cases C p [q] with hBy | ⟨c, hBy⟩ | ⟨c, hBy, -⟩
            · rw [hBy] at B0
              have B1 : Hid (Calls Tryz.prog 40 #[.slice (some ⟨lg, 0, none⟩) 2 lcap] w10 fun e w' => e = .returned (.tuple #[.string ⟨([] : List UInt8).toArray⟩, .int .i64 0]) ∧ Below w10.heap.size w10 w') := B0
              have HN : Hid (encG (bytB C) ps = none) := Lib.hid (by rw [HE.out, HG0.out hBy]; rfl)
              clear hBy HG0 HG1 HG2 HE HN1 HN2 HVS B0 TK
              go_wp2_with (go_at_call 40; (with_reducible refine B1.out.mono ?_); rintro e wb ⟨rfl, hb6⟩; replace R := Lib.hid (R.out.below hb6); replace V := Lib.hid (V.out.below hb6); replace F := Lib.hid (block_below F.out hb6); replace K := Lib.hid (nextB K.out hb6); clear hb6; obtain ⟨f0, f1⟩ := cells2 (F.out); obtain ⟨ff0, ff1⟩ := frees2 (F.out))
              have hw1 : w.heap.size ≤ rb := by have := HRB.out; omega
              refine end_tmp_cell (by rfl) rfl (by rfl) (store2 F.out rfl) Tryz.underlying26 rfl (by kernel_rfl) ?_
              exact ⟨[], 6, pq, rfl, .inr ⟨ps, HPS.out, rfl, .inr ⟨HN.out, rfl, rfl⟩⟩, (K.out.setCell hw1 _).setCell hw1 _⟩
            · rw [hBy] at B0
              have HE2 : Hid (encG (bytB C) ps = (encG (bytB C) (q :: rs)).map ((bs ++ bigL c 2) ++ ·)) := Lib.hid (by rw [HE.out, HG1.out c hBy, map_app])
              obtain ⟨z, hz⟩ : ∃ z, z = bigL c 2 := ⟨_, rfl⟩
              have hzl : z.length = 2 := by rw [hz]; rfl
              have B1 : Hid (Calls Tryz.prog 40 #[.slice (some ⟨lg, 0, none⟩) 2 lcap] w10 fun e w' => e = .returned (.tuple #[.string ⟨z.toArray⟩, .int .i64 1]) ∧ Below w10.heap.size w10 w') := by rw [hz]; exact B0
              rw [← hz] at HE2
              clear hBy HG0 HG1 HG2 HE HN2 HVS B0 hz TK
              go_wp2_with (first | (go_at_call 40; (with_reducible refine B1.out.mono ?_); rintro e wb ⟨rfl, hb6⟩; have hwbb : ib + 1 ≤ wb.heap.size := (Nat.le_trans hwb10 hb6.size); replace R := Lib.hid (R.out.below hb6); replace V := Lib.hid (V.out.below hb6); replace F := Lib.hid (block_below F.out hb6); replace K := Lib.hid (nextB K.out hb6); have L5 := Lib.hid V.out.lt; clear hb6) | (at_builtin; refine wpList_pushS wb rfl (.tmp 72) (.tmp 73) 35 9 rfl (ib + 1) 5 Tryz.underlying35 Tryz.underlying9 info_u8' _ bs z rfl V.out (by rfl) (by omega) hwbb ?_; intro v9 w11 hr9 hg9; have V9 := Lib.hid hr9; have HG9 := Lib.hid hg9; clear hr9 hg9))
              have KG := Lib.hid (pk_grown (Below.refl (ib + 1) wb) HG9.out (fun k e => (L5.out k e).1) hwbb)
              exact HN1.out _ _ _ HE2.out (by have := HLQ.out; have := HPQ.out; have := HLP.out; simp; omega) ((KG.out.block ib (by omega)).trans R.out) ((KG.out.block rb (by omega)).trans F.out) V9.out (K.out.trans (KG.out.mono (by have := HRB.out; omega)))
            · rw [hBy] at B0
              have HE2 : Hid (encG (bytB C) ps = (encG (bytB C) rs).map ((bs ++ bigL c 2) ++ ·)) := Lib.hid (by rw [HE.out, HG2.out c hBy, map_app])
              obtain ⟨z, hz⟩ : ∃ z, z = bigL c 2 := ⟨_, rfl⟩
              have hzl : z.length = 2 := by rw [hz]; rfl
              have B1 : Hid (Calls Tryz.prog 40 #[.slice (some ⟨lg, 0, none⟩) 2 lcap] w10 fun e w' => e = .returned (.tuple #[.string ⟨z.toArray⟩, .int .i64 2]) ∧ Below w10.heap.size w10 w') := by rw [hz]; exact B0
              rw [← hz] at HE2
              clear hBy HG0 HG1 HG2 HE HN1 HVS B0 hz
              go_wp2_with (first | (go_at_call 40; (with_reducible refine B1.out.mono ?_); rintro e wb ⟨rfl, hb6⟩; have hwbb : ib + 1 ≤ wb.heap.size := (Nat.le_trans hwb10 hb6.size); replace R := Lib.hid (R.out.below hb6); replace V := Lib.hid (V.out.below hb6); replace F := Lib.hid (block_below F.out hb6); replace K := Lib.hid (nextB K.out hb6); clear hb6) | (go_at_call 52; (with_reducible refine (TK.out _ R.out).mono ?_); rintro e wt ⟨rfl, hr8, ho8⟩; replace F := Lib.hid (block_only F.out ho8 (by omega)); replace V := Lib.hid (V.out.kept ho8 (.inr (fun e => by have := (V.out.lt ib e).1; omega))); replace K := Lib.hid (onlyB K.out ho8 (by have := HRB.out; omega)); replace R := Lib.hid hr8; have L5 := Lib.hid V.out.lt; have hwbt : ib + 1 ≤ wt.heap.size := (Nat.le_trans hwbb ho8.size); clear hr8 ho8) | (at_builtin; refine wpList_pushS wt rfl (.tmp 72) (.tmp 73) 35 9 rfl (ib + 1) 5 Tryz.underlying35 Tryz.underlying9 info_u8' _ bs z rfl V.out (by rfl) (by omega) hwbt ?_; intro v9 w11 hr9 hg9; have V9 := Lib.hid hr9; have HG9 := Lib.hid hg9; clear hr9 hg9))
              have KG := Lib.hid (pk_grown (Below.refl (ib + 1) wt) HG9.out (fun k e => (L5.out k e).1) hwbt)
              exact HN2.out _ _ _ HE2.out (by have := HLQ.out; have := HLQ2.out; have := HPQ.out; have := HLP.out; rw [List.length_append]; omega) ((KG.out.block ib (by omega)).trans R.out) ((KG.out.block rb (by omega)).trans F.out) V9.out (K.out.trans (KG.out.mono (by have := HRB.out; omega)))
  · rw [show ((2 : Int) != 0) = true by rfl] at BD
    clear HCD PC
    obtain ⟨y0, y1⟩ := cells2 (CK.out)
    go_upto_region 3 with (go_at_call 7; (with_reducible refine (BD.out _).mono ?_); rintro e w3 ⟨rfl, hb3⟩; replace CK := Lib.hid (block_below CK.out hb3); replace F := Lib.hid (block_below F.out hb3); replace K := Lib.hid (nextB K.out hb3); clear hb3 y0 y1; obtain ⟨y0, y1⟩ := cells2 (CK.out); obtain ⟨f0, f1⟩ := cells2 (F.out); obtain ⟨ff0, ff1⟩ := frees2 (F.out))
    have cc : w3.cell? ⟨cb, 0, none⟩ = some (.int .i64 2) ∧ w3.cell? ⟨cb, 1, none⟩ = some (.int .i64 fa) := ⟨y0, y1⟩
    have n1 : cb ≠ rb := by omega
    go_region_held3 (fun w' => w'.cell? ⟨cb, 0, none⟩ = some (.int .i64 2) ∧ w'.cell? ⟨cb, 1, none⟩ = some (.int .i64 fa)) (first | exact cc | exact ⟨cell_set_other (cell_set_other y0 n1) n1, cell_set_other (cell_set_other y1 n1) n1⟩ | fail) (fail)
    go_wp2
    have hw1 : w.heap.size ≤ rb := by have := HRB.out; omega
    refine end_tmp_cell (by rfl) rfl (by rfl) (store2 F.out rfl) Tryz.underlying26 rfl (by kernel_rfl) ?_
    exact ⟨[], 2, fa, rfl, .inl ⟨hbad, rfl, rfl⟩, belowN ((K.out.setCell hw1 _).setCell hw1 _) 1⟩
end Go.Proofs.YtffhmjlojmoomaaGreatDoor
