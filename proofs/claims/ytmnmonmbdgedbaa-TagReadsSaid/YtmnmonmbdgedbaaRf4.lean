/- Layer 13 (frame): the document's content, joined. | Layer 13 (frame): the document's Parse, walked: what the walk holds; where there is no frame. -/
import Derived.Test.YtmnmonmbdgedbaaRf2

namespace Go.Proofs.Ytmnmonmbdgedbaa
open Go.RowKit
set_option linter.unusedVariables false
set_option linter.unusedSimpArgs false

theorem rf_one_le (m : Rd) : numL (m.take ((1 : Nat) : Int)).2 ≤ 255 := by
  have h1 := numL_bound (m.take ((1 : Nat) : Int)).2
  have h2 := take_len m ((1 : Nat) : Int)
  have h3 : (256 : Nat) ^ (m.take ((1 : Nat) : Int)).2.length ≤ 256 ^ 1 := Nat.pow_le_pow_right (by decide) (by simpa using h2)
  omega
theorem left_nonneg {m : Rd} (hm : m.Ok) : 0 ≤ m.left := by
  have := hm.1
  unfold Rd.left
  split <;> omega
def RCon (id : List UInt8) (st fm : Int) (g : Int) (b : List UInt8) (pl : Int) (c : Int × Int) (w : World) (e : Ending) (w' : World) : Prop :=
  ∃ r : Rd, r.cd = c.1 ∧ (c.1 ≠ 0 → r.pl = c.2) ∧ e = .returned (.tuple #[.agg #[.string ⟨id.toArray⟩, .int .i64 st, .int .i64 fm, .int .i64 g, .string ⟨b.toArray⟩, .int .i64 pl], rdV r]) ∧ Below w.heap.size w w'
theorem rcontent_any (v : Int) (id : List UInt8) (st : Int) (fm : UInt8) (b0 : List UInt8) (pl : Int) (data : List UInt8) (at0 : Int) (w : World) (hd : data.length ≤ 1000000) (ha : 0 ≤ at0) (ha2 : at0 ≤ 2000000000000) (hk : locked v fm = false) :
    Calls Try.prog 132 #[.int .i64 v, .agg #[.string ⟨id.toArray⟩, .int .i64 st, .int .i64 fm.toNat, .int .i64 0, .string ⟨b0.toArray⟩, .int .i64 pl], .string ⟨data.toArray⟩, .int .i64 at0] w
      (RCon id st fm.toNat (fillB v fm data at0).1.toNat (fillB v fm data at0).2 pl (fillC v fm data at0) w) := by
  have hmax : max at0 0 = at0 := by omega
  have hm0 : (Rd.new data at0).Ok := new_ok data at0 (by omega) (by omega)
  have e0 : rdV (Rd.new data at0) = .agg #[.string ⟨data.toArray⟩, .int .i64 0, .int .i64 at0, .int .i64 0, .int .i64 0] := by simp [rdV, Rd.new, hmax]
  unfold fillB fillC
  rw [hk]
  simp only [Bool.false_eq_true, if_false]
  generalize hgp : grouped v fm = gp
  generalize hms : measured v fm = ms
  generalize hsp : spreadB v fm = sp
  generalize hr0 : Rd.new data at0 = r0 at *
  generalize hD : fillM gp ms sp r0 = D
  have hb : r0.bs = at0 := by rw [← hr0]; simp [Rd.new, hmax]
  have ht0 : r0.t = data := by rw [← hr0]; rfl
  -- the group
  obtain ⟨r1, x, hr1, ok1, t1, bs1, hx, hG⟩ : ∃ (r1 : Rd) (x : Nat), (if gp = true then r0.take ((1 : Nat) : Int) else (r0, ([] : List UInt8))).1 = r1 ∧ r1.Ok ∧ r1.t = data ∧ r1.bs = at0 ∧ ((if gp = true then UInt8.ofNat (numL (if gp = true then r0.take ((1 : Nat) : Int) else (r0, ([] : List UInt8))).2) else 0 : UInt8).toNat = x) ∧
      ((gp = true ∧ Hid (∀ w, Calls Try.prog 130 #[rdV r0, .int .i64 1] w fun e w' => e = .returned (.tuple #[rdV r1, .int .i64 x]) ∧ Below w.heap.size w w')) ∨ (gp = false ∧ r1 = r0 ∧ x = 0)) := by
    cases gp with
    | true =>
      refine ⟨_, _, rfl, ?_, ?_, ?_, rfl, .inl ⟨rfl, Lib.hid fun w => ?_⟩⟩
      · exact take_ok _ hm0
      · simp only [if_true]; rw [take_t]; exact ht0
      · simp only [if_true]; rw [take_bs]; exact hb
      · have h := rbig13_any r0 1 w hm0 (by decide)
        have hl := rf_one_le r0
        have e1 : ((UInt8.ofNat (numL (r0.take ((1 : Nat) : Int)).2)).toNat : Nat) = numL (r0.take ((1 : Nat) : Int)).2 := by rw [UInt8.toNat_ofNat']; omega
        simp only [if_true, e1]
        exact h
    | false => exact ⟨r0, 0, rfl, hm0, ht0, hb, rfl, .inr ⟨rfl, rfl, rfl⟩⟩
  -- the measure
  obtain ⟨r2, sv, hr2, hsv, ok2, hM⟩ : ∃ (r2 : Rd) (sv : Int), (if ms = true then r1.safe else (r1, 0)).1 = r2 ∧ (ms = true → sv = (if ms = true then r1.safe else (r1, 0)).2 ∧ 0 ≤ sv) ∧ r2.Ok ∧
      ((ms = true ∧ Hid (∀ w, Calls Try.prog 102 #[rdV r1] w fun e w' => e = .returned (.tuple #[rdV r2, .int .i64 sv]) ∧ Below w.heap.size w w')) ∨ (ms = false ∧ r2 = r1 ∧ sv = -1)) := by
    cases ms with
    | true => exact ⟨r1.safe.1, r1.safe.2, rfl, fun _ => ⟨rfl, safe_nonneg r1⟩, fr_safe_ok ok1, .inl ⟨rfl, Lib.hid fun w => rreadsafe_any r1 w ok1⟩⟩
    | false => exact ⟨r1, -1, rfl, (fun h => by cases h), ok1, .inr ⟨rfl, rfl, rfl⟩⟩
  have hle := left_nonneg ok2
  have ll : (r2.left.toNat : Int) = r2.left := by omega
  have LF : Hid (∀ w, Calls Try.prog 103 #[rdV r2] w fun e w' => e = .returned (.int .i64 (r2.left.toNat : Int)) ∧ Below w.heap.size w w') := Lib.hid fun w => by rw [ll]; exact rleft_any r2 w ok2
  have TK : Hid (∀ w, Calls Try.prog 68 #[rdV r2, .int .i64 (r2.left.toNat : Int)] w fun e w' => e = .returned (.tuple #[rdV r2.rest.1, .string ⟨r2.rest.2.toArray⟩]) ∧ Below w.heap.size w w') := Lib.hid fun w => by rw [ll]; exact rtake_any r2 r2.left w ok2
  have hbd : r2.rest.2.length ≤ 1000000000 := by
    have h1 := take_len r2 r2.left
    have h2 := ok2.2.1
    have h3 : r2.left ≤ r2.t.length := by unfold Rd.left; split <;> omega
    show (r2.take r2.left).2.length ≤ _
    omega
  generalize hbo : (if sp = true then sndDrop false r2.rest.2 else r2.rest.2) = bo
  have hS : (sp = true ∧ Hid (∀ w, Calls Try.prog 69 #[.string ⟨r2.rest.2.toArray⟩] w fun e w' => e = .returned (.string ⟨bo.toArray⟩) ∧ w = w')) ∨ (sp = false ∧ bo = r2.rest.2) := by
    cases sp with
    | true => exact .inl ⟨rfl, Lib.hid fun w => by rw [← hbo]; exact rdrop_any _ w hbd⟩
    | false => exact .inr ⟨rfl, hbo.symm⟩
  -- the end
  have hrest : (r2.cd = 0 → r2.rest.1.cd = 0) ∧ (r2.cd ≠ 0 → r2.rest.1 = r2) := by
    refine ⟨fun h => ?_, fun h => ?_⟩
    · rw [rest_of ok2.1 h]; exact h
    · show (r2.take r2.left).1 = r2
      rw [take_dead h]
  have key : ∀ r4 : Rd, ((0 ≤ sv ∧ (sv != (bo.length : Int)) = true ∧ Hid (∀ w, Calls Try.prog 101 #[rdV r2.rest.1, .int .i64 1, .int .i64 (r1.bs + r1.nx)] w fun e w' => e = .returned (rdV r4) ∧ Below w.heap.size w w')) ∨ (r4 = r2.rest.1 ∧ 0 ≤ sv ∧ (sv != (bo.length : Int)) = false) ∨ (r4 = r2.rest.1 ∧ ¬ 0 ≤ sv)) →
      Calls Try.prog 132 #[.int .i64 v, .agg #[.string ⟨id.toArray⟩, .int .i64 st, .int .i64 fm.toNat, .int .i64 0, .string ⟨b0.toArray⟩, .int .i64 pl], .string ⟨data.toArray⟩, .int .i64 at0] w fun e w' => e = .returned (.tuple #[.agg #[.string ⟨id.toArray⟩, .int .i64 st, .int .i64 fm.toNat, .int .i64 x, .string ⟨bo.toArray⟩, .int .i64 pl], rdV r4]) ∧ Below w.heap.size w w' := fun r4 hf => by
    have hn1 := ok1.1
    have hn2 := ok1.2.1
    exact rcontent_core v id st fm.toNat b0 pl data at0 gp ms sp r0 r1 r2 r2.rest.1 r4 x r2.left.toNat sv r2.rest.2 bo w e0 ok1.2.2.1 ok1.2.2.2 (by omega) (Lib.hid fun w => by rw [← hgp]; exact rgrouped_any v fm w) (Lib.hid fun w => by rw [← hms]; exact rmeasured_any v fm w) (Lib.hid fun w => by rw [← hsp]; exact rspread_any v fm w) hG hM LF TK hS hf
  have hDm : D.m = r2 := by rw [← hD, ← hr2, ← hr1]; rfl
  have hDb : D.bo = bo := by
    rw [← hbo, ← hr2, ← hr1, ← hD]
    rfl
  have hDg : D.gr.toNat = x := by rw [← hx, ← hD]; rfl
  have hDp : D.pl = r1.bs + r1.nx := by rw [← hD, ← hr1]; rfl
  have hDs : ms = true → D.ms = sv := fun h => by
    rw [(hsv h).1, ← hr1, ← hD]
    rfl
  rw [hDm, hDb, hDp, show (D.gr.toNat : Int) = (x : Int) by rw [hDg]]
  by_cases hbad : ms = true ∧ sv ≠ (bo.length : Int)
  · obtain ⟨hm1, hne⟩ := hbad
    refine (key (r2.rest.1.fail 1 (r1.bs + r1.nx)) (.inl ⟨(hsv hm1).2, by simpa using hne, Lib.hid fun w => rfail_any _ _ _ w⟩)).mono ?_
    rintro e w' ⟨rfl, hb'⟩
    refine ⟨r2.rest.1.fail 1 (r1.bs + r1.nx), ?_, ?_, rfl, hb'⟩
    · by_cases hc : r2.cd = 0
      · rw [if_neg (by simpa using hc), if_pos ⟨hm1, by rw [hDs hm1]; exact hne⟩, Rd.fail_yes _ _ _ (hrest.1 hc) (by decide)]
      · rw [if_pos hc, hrest.2 hc, Rd.fail_no _ _ _ (by simp [hc])]
    · by_cases hc : r2.cd = 0
      · rw [if_neg (by simpa using hc), if_pos ⟨hm1, by rw [hDs hm1]; exact hne⟩, Rd.fail_yes _ _ _ (hrest.1 hc) (by decide)]
        exact fun _ => rfl
      · rw [if_pos hc, hrest.2 hc, Rd.fail_no _ _ _ (by simp [hc])]
        exact fun _ => rfl
  · have hcase : (0 ≤ sv ∧ (sv != (bo.length : Int)) = false) ∨ ¬ 0 ≤ sv := by
      rcases hM with ⟨h1, _⟩ | ⟨h1, _, h3⟩
      · left
        refine ⟨(hsv h1).2, ?_⟩
        have : sv = (bo.length : Int) := Classical.byContradiction fun h => hbad ⟨h1, h⟩
        simpa using this
      · right; omega
    refine (key r2.rest.1 (by rcases hcase with ⟨a, b⟩ | a; exact .inr (.inl ⟨rfl, a, b⟩); exact .inr (.inr ⟨rfl, a⟩))).mono ?_
    rintro e w' ⟨rfl, hb'⟩
    refine ⟨r2.rest.1, ?_, ?_, rfl, hb'⟩
    · by_cases hc : r2.cd = 0
      · rw [if_neg (by simpa using hc), if_neg (fun h => hbad ⟨h.1, by rw [← hDs h.1]; exact h.2⟩), hrest.1 hc]
      · rw [if_pos hc, hrest.2 hc]
    · by_cases hc : r2.cd = 0
      · rw [if_neg (by simpa using hc), if_neg (fun h => hbad ⟨h.1, by rw [← hDs h.1]; exact h.2⟩)]
        exact fun h => absurd rfl h
      · rw [if_pos hc, hrest.2 hc]
        exact fun _ => rfl
end Go.Proofs.Ytmnmonmbdgedbaa

namespace Go.Proofs.Ytmnmonmbdgedbaa
open Go.RowKit
set_option linter.unusedVariables false
set_option linter.unusedSimpArgs false

theorem end_cct {P : Program} {fn : Func} {R : Ending → World → Prop} {a : Act} {w : World} {p1 p2 u : Tmp} {ty1 ty2 t1 t2 : TypeId} {b1 b2 : Nat} {C1 C2 : Array Value} {d1 d2 : TypeDesc}
    (h : fn.results = #[.cell p1 ty1, .cell p2 ty2, .tmp u]) (hd0 : a.defers = []) (hp1 : a.tmps.getD p1 undef = .pointer (some ⟨b1, 0, none⟩)) (hg1 : w.heap[b1]? = some (.cells C1 t1 (0, 0)))
    (hu1 : P.underlying ty1 = some d1) (hd1 : (match d1 with | .struct _ | .array _ _ => true | _ => false) = true) (hi1 : (P.info? ty1).map (·.size) = some C1.size)
    (hp2 : a.tmps.getD p2 undef = .pointer (some ⟨b2, 0, none⟩)) (hg2 : w.heap[b2]? = some (.cells C2 t2 (0, 0)))
    (hu2 : P.underlying ty2 = some d2) (hd2 : (match d2 with | .struct _ | .array _ _ => true | _ => false) = true) (hi2 : (P.info? ty2).map (·.size) = some C2.size)
    (hR : R (.returned (.tuple #[.agg C1, .agg C2, a.tmps.getD u undef])) w) : bodyPost P fn R .ret a w := by
  refine bodyPost_ret (v := .tuple #[.agg C1, .agg C2, a.tmps.getD u undef]) ?_ hd0 hR
  have hp1' : a.tmps[p1]?.getD undef = .pointer (some ⟨b1, 0, none⟩) := by simpa using hp1
  have hp2' : a.tmps[p2]?.getD undef = .pointer (some ⟨b2, 0, none⟩) := by simpa using hp2
  simp only [results, h]
  simp [hp1', hp2', asAddr, run_loadVar_row w b1 t1 ty1 C1 (0, 0) d1 hg1 hu1 hd1 hi1, run_loadVar_row w b2 t2 ty2 C2 (0, 0) d2 hg2 hu2 hd2 hi2]
/-- the reader's box and the two results -/
structure Px (w0 w : World) (xb : Nat) (r : Rd) : Prop where
  r : InAt 103 w xb r
  z6 : w.heap[xb + 1]? = some (.cells #[.string ⟨#[]⟩, .int .i64 0, .int .i64 0, .int .i64 0, .int .i64 0] 103 (0, 0))
  z7 : w.heap[xb + 1 + 1]? = some (.cells #[.string ⟨#[]⟩, .int .i64 0, .int .i64 0, .int .i64 0, .string ⟨#[]⟩, .int .i64 0] 100 (0, 0))
  k : Below w0.heap.size w0 w
  hw : w0.heap.size ≤ xb
section
variable {w0 w w' : World} {xb tb : Nat} {id b : List UInt8} {st fm g pl : Int} {r : Rd}
theorem Px.below (h : Px w0 w xb r) (k : Below w.heap.size w w') : Px w0 w' xb r := ⟨h.r.below k, block_below h.z6 k, block_below h.z7 k, nextB h.k k, h.hw⟩
theorem Px.lt (h : Px w0 w xb r) : xb + 1 + 1 < w.heap.size := (Array.getElem?_eq_some_iff.1 h.z7).1
theorem Px.setr (h : Px w0 w xb r) (x : Rd) : Px w0 (((((w.setCell ⟨xb, 0, none⟩ (.string ⟨x.t.toArray⟩)).setCell ⟨xb, 1, none⟩ (.int .i64 x.nx)).setCell ⟨xb, 2, none⟩ (.int .i64 x.bs)).setCell ⟨xb, 3, none⟩ (.int .i64 x.cd)).setCell ⟨xb, 4, none⟩ (.int .i64 x.pl)) xb x := by
  have hw := h.hw
  have o : ∀ c, c ≠ xb → (((((w.setCell ⟨xb, 0, none⟩ (.string ⟨x.t.toArray⟩)).setCell ⟨xb, 1, none⟩ (.int .i64 x.nx)).setCell ⟨xb, 2, none⟩ (.int .i64 x.bs)).setCell ⟨xb, 3, none⟩ (.int .i64 x.cd)).setCell ⟨xb, 4, none⟩ (.int .i64 x.pl)).heap[c]? = w.heap[c]? := fun c hc => by
    rw [heap_set_other _ hc, heap_set_other _ hc, heap_set_other _ hc, heap_set_other _ hc, heap_set_other _ hc]
  exact ⟨store5 h.r rfl, (o _ (by omega)).trans h.z6, (o _ (by omega)).trans h.z7, ((((h.k.setCell hw _).setCell hw _).setCell hw _).setCell hw _).setCell hw _, hw⟩
theorem Px.other (h : Px w0 w xb r) (j : Nat) (v : Value) (ht : xb + 1 + 1 < tb) : Px w0 (w.setCell ⟨tb, j, none⟩ v) xb r := by
  have hw := h.hw
  exact ⟨(heap_set_other _ (by omega)).trans h.r, (heap_set_other _ (by omega)).trans h.z6, (heap_set_other _ (by omega)).trans h.z7, Below.setCell (p := ⟨tb, j, none⟩) h.k (show w0.heap.size ≤ tb by omega) v, hw⟩
theorem Px.fin (h : Px w0 w xb r) (x : Rd) (id' b' : List UInt8) (st' fm' g' pl' : Int) : (stores (stores w (xb + 1) 0 [.string ⟨x.t.toArray⟩, .int .i64 x.nx, .int .i64 x.bs, .int .i64 x.cd, .int .i64 x.pl]) (xb + 1 + 1) 0 [.string ⟨id'.toArray⟩, .int .i64 st', .int .i64 fm', .int .i64 g', .string ⟨b'.toArray⟩, .int .i64 pl']).heap[xb + 1]? = some (.cells #[.string ⟨x.t.toArray⟩, .int .i64 x.nx, .int .i64 x.bs, .int .i64 x.cd, .int .i64 x.pl] 103 (0, 0)) ∧
    (stores (stores w (xb + 1) 0 [.string ⟨x.t.toArray⟩, .int .i64 x.nx, .int .i64 x.bs, .int .i64 x.cd, .int .i64 x.pl]) (xb + 1 + 1) 0 [.string ⟨id'.toArray⟩, .int .i64 st', .int .i64 fm', .int .i64 g', .string ⟨b'.toArray⟩, .int .i64 pl']).heap[xb + 1 + 1]? = some (.cells #[.string ⟨id'.toArray⟩, .int .i64 st', .int .i64 fm', .int .i64 g', .string ⟨b'.toArray⟩, .int .i64 pl'] 100 (0, 0)) ∧ Below w0.heap.size w0 (stores (stores w (xb + 1) 0 [.string ⟨x.t.toArray⟩, .int .i64 x.nx, .int .i64 x.bs, .int .i64 x.cd, .int .i64 x.pl]) (xb + 1 + 1) 0 [.string ⟨id'.toArray⟩, .int .i64 st', .int .i64 fm', .int .i64 g', .string ⟨b'.toArray⟩, .int .i64 pl']) := by
  have hw := h.hw
  have s1 := store5 (v0 := .string ⟨x.t.toArray⟩) (v1 := .int .i64 x.nx) (v2 := .int .i64 x.bs) (v3 := .int .i64 x.cd) (v4 := .int .i64 x.pl) h.z6 rfl
  have n1 : xb + 1 ≠ xb + 1 + 1 := by omega
  have n2 : xb + 1 + 1 ≠ xb + 1 := by omega
  have l1 : w0.heap.size ≤ xb + 1 := by omega
  have l2 : w0.heap.size ≤ xb + 1 + 1 := by omega
  refine ⟨?_, ?_, ?_⟩
  · show (World.setCell (World.setCell (World.setCell (World.setCell (World.setCell (World.setCell _ ⟨xb + 1 + 1, 0, none⟩ _) ⟨xb + 1 + 1, 1, none⟩ _) ⟨xb + 1 + 1, 2, none⟩ _) ⟨xb + 1 + 1, 3, none⟩ _) ⟨xb + 1 + 1, 4, none⟩ _) ⟨xb + 1 + 1, 5, none⟩ _).heap[xb + 1]? = _
    rw [heap_set_other _ n1, heap_set_other _ n1, heap_set_other _ n1, heap_set_other _ n1, heap_set_other _ n1, heap_set_other _ n1]
    exact s1
  · refine store6 (C := #[.string ⟨#[]⟩, .int .i64 0, .int .i64 0, .int .i64 0, .string ⟨#[]⟩, .int .i64 0]) ?_ rfl
    show (World.setCell (World.setCell (World.setCell (World.setCell (World.setCell w ⟨xb + 1, 0, none⟩ _) ⟨xb + 1, 1, none⟩ _) ⟨xb + 1, 2, none⟩ _) ⟨xb + 1, 3, none⟩ _) ⟨xb + 1, 4, none⟩ _).heap[xb + 1 + 1]? = _
    rw [heap_set_other _ n2, heap_set_other _ n2, heap_set_other _ n2, heap_set_other _ n2, heap_set_other _ n2]
    exact h.z7
  · exact (((((((((((h.k.setCell l1 _).setCell l1 _).setCell l1 _).setCell l1 _).setCell l1 _).setCell l2 _).setCell l2 _).setCell l2 _).setCell l2 _).setCell l2 _).setCell l2 _)
end
theorem Px.init (w : World) (m : Rd) : Px w (((w.alloc (.cells #[.string ⟨m.t.toArray⟩, .int .i64 m.nx, .int .i64 m.bs, .int .i64 m.cd, .int .i64 m.pl] 103)).alloc (.cells #[.string ⟨#[]⟩, .int .i64 0, .int .i64 0, .int .i64 0, .int .i64 0] 103)).alloc (.cells #[.string ⟨#[]⟩, .int .i64 0, .int .i64 0, .int .i64 0, .string ⟨#[]⟩, .int .i64 0] 100)) w.heap.size m := by
  have k : ∀ (v : World) (o : Obj), Below v.heap.size v (v.alloc o) := fun v o => (Below.refl _ _).alloc (Nat.le_refl _) o
  refine ⟨?_, ?_, ?_, ((k w _).alloc (by simp) _).alloc (by simp; omega) _, Nat.le_refl _⟩
  · exact block_below (block_below (at_a0 w #[.string ⟨m.t.toArray⟩, .int .i64 m.nx, .int .i64 m.bs, .int .i64 m.cd, .int .i64 m.pl] 103) (k _ _)) (k _ _)
  · have h := block_below (at_a0 (w.alloc (.cells #[.string ⟨m.t.toArray⟩, .int .i64 m.nx, .int .i64 m.bs, .int .i64 m.cd, .int .i64 m.pl] 103)) #[.string ⟨#[]⟩, .int .i64 0, .int .i64 0, .int .i64 0, .int .i64 0] 103) (k _ (.cells #[.string ⟨#[]⟩, .int .i64 0, .int .i64 0, .int .i64 0, .string ⟨#[]⟩, .int .i64 0] 100))
    simpa using h
  · have h := at_a0 ((w.alloc (.cells #[.string ⟨m.t.toArray⟩, .int .i64 m.nx, .int .i64 m.bs, .int .i64 m.cd, .int .i64 m.pl] 103)).alloc (.cells #[.string ⟨#[]⟩, .int .i64 0, .int .i64 0, .int .i64 0, .int .i64 0] 103)) #[.string ⟨#[]⟩, .int .i64 0, .int .i64 0, .int .i64 0, .string ⟨#[]⟩, .int .i64 0] 100
    simpa using h
def RPar (x : Rd) (f : Fr) (ok : Bool) (w : World) (e : Ending) (w' : World) : Prop := e = .returned (.tuple #[rdV x, rfV f, .bool ok]) ∧ Below w.heap.size w w'
set_option maxHeartbeats 4000000 in
set_option maxRecDepth 100000 in
theorem rparse_none (v : Int) (sp : Bool) (m : Rd) (s : List UInt8) (k : Nat) (w : World)
    (PK : Hid (∀ w, Calls Try.prog 127 #[.agg #[.string ⟨m.t.toArray⟩, .int .i64 m.nx, .int .i64 m.bs, .int .i64 m.cd, .int .i64 m.pl], .int .i64 1] w fun e w' => e = .returned (.string ⟨s.toArray⟩) ∧ Below w.heap.size w w'))
    (LT : Hid (∀ w, Calls Try.prog 128 #[.int .i64 v] w fun e w' => e = .returned (.int .i64 (k : Nat)) ∧ w = w'))
    (h : s = [] ∨ s = [0] ∨ (∃ c : UInt8, s = [c] ∧ ((c.toNat : Int) == 0) = false ∧ ((k : Int) == 0) = true)) :
    Calls Try.prog 105 #[.int .i64 v, rdV m, .bool sp] w (RPar m zeroF false w) := by
  unfold RPar
  rcases h with rfl | rfl | ⟨c, rfl, hc0, hk0⟩
  all_goals (
    go_enter Try.func105, Try.ntmps105
    go_upto_region 1 with (fail)
    have X := Lib.hid (Px.init w m)
    obtain ⟨xb, hxb⟩ : ∃ xb, xb = w.heap.size := ⟨_, rfl⟩
    rw [← hxb] at X
    rw [← hxb]
    clear hxb
    generalize ((w.alloc (.cells #[.string ⟨m.t.toArray⟩, .int .i64 m.nx, .int .i64 m.bs, .int .i64 m.cd, .int .i64 m.pl] 103)).alloc (.cells #[.string ⟨#[]⟩, .int .i64 0, .int .i64 0, .int .i64 0, .int .i64 0] 103)).alloc (.cells #[.string ⟨#[]⟩, .int .i64 0, .int .i64 0, .int .i64 0, .string ⟨#[]⟩, .int .i64 0] 100) = wv at *
    obtain ⟨q0, q1, q2, q3, q4⟩ := cells5 (X.out.r)
    go_upto_region 3 with (first | (go_at_call 127; refine (PK.out _).mono ?_; rintro e w1 ⟨rfl, hb1⟩; replace X := Lib.hid (X.out.below hb1); clear hb1) | (go_at_call 128; refine (LT.out _).mono ?_; rintro e wx ⟨rfl, rfl⟩))
    clear q0 q1 q2 q3 q4
    obtain ⟨q0, q1, q2, q3, q4⟩ := cells5 (X.out.r)
    obtain ⟨y0, y1, y2, y3, y4⟩ := cells5 (X.out.z6); obtain ⟨yf0, yf1, yf2, yf3, yf4⟩ := frees5 (X.out.z6)
    obtain ⟨z0, z1, z2, z3, z4, z5⟩ := cells6 (X.out.z7); obtain ⟨zf0, zf1, zf2, zf3, zf4, zf5⟩ := frees6 (X.out.z7)
    go_wp2
    obtain ⟨h8, h9, hk⟩ := X.out.fin m [] [] 0 0 0 0
    exact end_cct rfl rfl rfl h8 Try.underlying103 rfl info_ref01In rfl h9 Try.underlying100 rfl (by kernel_rfl) ⟨rfl, hk⟩)
end Go.Proofs.Ytmnmonmbdgedbaa
