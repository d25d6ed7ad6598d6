/- The evaluator: maps read and written; appends and copies. | The evaluator: appends and copies are the model's. -/
import Derived.Test.YtndpcphmndfajaaGreatDoorZEv7

namespace Go.Proofs.YtndpcphmndfajaaGreatDoor
open Go.RowKit
set_option linter.unusedVariables false
set_option linter.unusedSimpArgs false

section
variable {X : Cx} {P : Program} {w : World} {ρ : Ren}

theorem keyOk_und {t : TypeId} {k : SV} (h : keyOk P t k = true) : ∃ d, P.underlying t = some d := by
  unfold keyOk at h
  split at h
  · exact ⟨_, by assumption⟩
  · exact ⟨_, by assumption⟩
  · exact ⟨_, by assumption⟩
  · cases h
theorem zvOf_ok {t : TypeId} {ag : Bool} {z : List SV} {zv : SV} (hz : zeroT P t = some z) (ha : aggT P t = some ag) (h : zvOf ag z = some zv) (hok : zeroFit P t = true) : ∃ v, (zeroValue t).run P w = .ok v w ∧ VR ρ zv v := by
  obtain ⟨v, h1, h2⟩ := run_zero (w := w) (ρ := ρ) hz
  refine ⟨v, h1, ?_⟩
  have hv : (∃ cs, v = .agg cs) ↔ ag = true := by
    unfold zeroFit at hok
    unfold zeroT at hz
    cases hi : P.info? t with
    | none => rw [hi] at hz; cases hz
    | some i =>
      rw [hi] at hz
      rw [hi, ha] at hok
      simp only at hz hok
      cases hzz : i.zero with
      | none => rw [hzz] at hz; cases hz
      | some v' =>
        rw [hzz] at hok
        have : v' = v := by
          have := h1
          simp only [zeroValue, Sem.run_bind, run_info hi, Result.andThen_ok, hzz, Sem.run_pure, Result.ok.injEq, and_true] at this
          exact this
        subst this
        cases ag <;> cases v' <;> simp at hok <;> simp
  cases ag with
  | true =>
    obtain ⟨cs, rfl⟩ := hv.2 rfl
    simp only [zvOf, Option.some.injEq] at h
    subst h
    simp only [VR]
    exact ⟨cs.toList, h2, rfl⟩
  | false =>
    have hn : ∀ cs, v ≠ .agg cs := fun cs e => by
      have := hv.1 ⟨cs, e⟩
      cases this
    have hc : v.cells.toList = [v] := by
      cases v <;> first | rfl | exact (hn _ rfl).elim
    rw [hc] at h2
    simp only [zvOf] at h
    split at h
    · simp only [Option.some.injEq] at h
      subst h
      exact (vrs_cons.1 h2).1
    · cases h

theorem evLookup_tri {S S' : St} {t : TypeId} {x k v : SV} {ok : Bool} (h : evLookup X.E.P S t x k ok = some (v, S')) :
    Tri X S S' v (fun ρ s => ∃ u u', VR ρ x u ∧ VR ρ k u' ∧ s = Instr.lookup t u u' ok) := by
  unfold evLookup at h
  split at h
  · rename_i kt et ht
    split at h
    · rename_i z ag hk hz ha
      obtain ⟨d, hd⟩ := keyOk_und hk
      have pair : ∀ {σ : Ren} {a : SV} {u : Value} (b : Bool), VR σ a u → VR σ (okP ok a b) (if ok then .tuple #[u, .bool b] else u) := by
        intro σ a u b hu
        cases ok with
        | true => simp only [okP, VR, if_true]; exact ⟨[u, .bool b], vrs_cons.2 ⟨hu, vrs_cons.2 ⟨by simp only [VR], vrs_nil.2 rfl⟩⟩, rfl⟩
        | false => simpa [okP] using hu
      split at h
      · cases h
      rename_i hfit
      split at h
      · split at h
        · rename_i zv hzv
          simp only [Option.some.injEq, Prod.mk.injEq] at h
          obtain ⟨rfl, rfl⟩ := h
          refine tri_pure fun ρ w s hs => ?_
          obtain ⟨u, u', hu, hu', rfl⟩ := hs
          simp only [VR] at hu
          subst hu
          obtain ⟨q, h1, h2⟩ := zvOf_ok (w := w) (ρ := ρ) hz ha hzv hfit
          refine ⟨_, ?_, pair false h2⟩
          have hf : (Instr.findKey kt u' []).run X.E.P w = .ok none w := findKey_eq hd rfl
          simp only [Instr.lookup, Sem.run_bind, run_und ht, Result.andThen_ok, Sem.run_pure, key_run hk hu', hf, h1]
        · cases h
      · rename_i b
        split at h
        · rename_i es c hb
          split at h
          · rename_i j q hfe
            simp only [Option.some.injEq, Prod.mk.injEq] at h
            obtain ⟨rfl, rfl⟩ := h
            refine tri_saw hb fun ρ w s n ob hs hr hu hw hB => ?_
            obtain ⟨u, u', hv, hu', rfl⟩ := hs
            simp only [VR] at hv
            obtain ⟨m, hm, rfl⟩ := hv
            obtain rfl := hu m hm
            obtain ⟨l, hl, rfl⟩ := hB
            obtain ⟨r', h1, _, h3⟩ := findE_ok (P := X.E.P) (w := w) hu' hfe hl
            obtain ⟨v', rfl, h4⟩ := h3 j q rfl
            refine ⟨_, ?_, pair true h4⟩
            have hf := findKey_eq hd h1
            simp only [Instr.lookup, getObj, Sem.run_bind, run_und ht, Result.andThen_ok, Sem.run_pure, Sem.run, hw, key_run hk hu', hf]
          · rename_i hfe
            split at h
            · rename_i zv hzv
              simp only [Option.some.injEq, Prod.mk.injEq] at h
              obtain ⟨rfl, rfl⟩ := h
              refine tri_saw hb fun ρ w s n ob hs hr hu hw hB => ?_
              obtain ⟨u, u', hv, hu', rfl⟩ := hs
              simp only [VR] at hv
              obtain ⟨m, hm, rfl⟩ := hv
              obtain rfl := hu m hm
              obtain ⟨l, hl, rfl⟩ := hB
              obtain ⟨r', h1, h2, _⟩ := findE_ok (P := X.E.P) (w := w) hu' hfe hl
              obtain rfl := h2 rfl
              obtain ⟨q, h5, h6⟩ := zvOf_ok (w := w) (ρ := ρ) hz ha hzv hfit
              refine ⟨_, ?_, pair false h6⟩
              have hf := findKey_eq hd h1
              simp only [Instr.lookup, getObj, Sem.run_bind, run_und ht, Result.andThen_ok, Sem.run_pure, Sem.run, hw, key_run hk hu', hf, h5]
            · cases h
          · cases h
        · cases h
      · cases h
    · cases h
  · cases h

theorem er_push : ∀ {es : List (SV × SV × Nat)} {l : List MapEntry} {k v : SV} {c : Nat} {e : MapEntry}, ER ρ es l → VR ρ k e.key → VR ρ v e.val → e.born = c → ER ρ (es ++ [(k, v, c)]) (l ++ [e])
  | [], l, k, v, c, e, h, h1, h2, h3 => by simp only [ER] at h; subst h; exact ⟨e, [], rfl, h1, h2, h3, rfl⟩
  | (x, y, b) :: es, l, k, v, c, e, h, h1, h2, h3 => by
    obtain ⟨e', r, rfl, g1, g2, g3, g4⟩ := h
    exact ⟨e', r ++ [e], rfl, g1, g2, g3, er_push g4 h1 h2 h3⟩
theorem evMapSet_tri {S S' : St} {t : TypeId} {x k v : SV} (h : evMapSet X.E.P X.E.ng S t x k v = some S') :
    Tri X S S' .und (fun ρ s => ∃ u u' u'', VR ρ x u ∧ VR ρ k u' ∧ VR ρ v u'' ∧ s = (do Instr.mapUpdate t u u' u''; pure undef)) := by
  unfold evMapSet at h
  split at h
  · rename_i kt et ht
    split at h
    · rename_i b hk
      obtain ⟨d, hd⟩ := keyOk_und hk
      split at h
      · rename_i es c hb
        split at h
        · rename_i hng hfe
          have hng := Nat.le_of_ble_eq_true hng
          simp only [Option.some.injEq] at h
          subst h
          refine tri_wr hb hng fun ρ w s n ob hs hr hu hw hB => ?_
          obtain ⟨u, u', u'', hv, hu', hu'', rfl⟩ := hs
          simp only [VR] at hv
          obtain ⟨m, hm, rfl⟩ := hv
          obtain rfl := hu m hm
          obtain ⟨l, hl, rfl⟩ := hB
          obtain ⟨r', h1, h2, _⟩ := findE_ok (P := X.E.P) (w := w) hu' hfe hl
          obtain rfl := h2 rfl
          have hf := findKey_eq hd h1
          have hne := hl.len
          refine ⟨undef, { w with heap := w.heap.setIfInBounds m (.map (l ++ [(⟨u', u'', c⟩ : MapEntry)]).toArray (c + 1)) }, .map (l ++ [(⟨u', u'', c⟩ : MapEntry)]).toArray (c + 1), ?_, rfl, ⟨rfl, rfl, rfl⟩, by simp only [VR], ⟨_, er_push hl hu' hu'' rfl, rfl⟩, fun _ _ e => by cases e⟩
          simp only [Instr.mapUpdate, getObj, setObj, Sem.run_bind, run_und ht, Result.andThen_ok, Sem.run_pure, Sem.run, hw, key_run hk hu', hf]
          simp
        · cases h
      · cases h
    · cases h
  · cases h

/-! ### Appends -/
theorem growBy_le (n : Nat) : ∀ r c, c ≤ 2 * n + 768 → Builtin.growBy n r c ≤ 2 * n + 768
  | 0, c, h => h
  | r + 1, c, h => by
    unfold Builtin.growBy
    split
    · exact h
    · exact growBy_le n r _ (by omega)
theorem next_le (n c : Nat) (h : c ≤ n) : Builtin.nextslicecap n c ≤ 2 * n + 768 := by
  unfold Builtin.nextslicecap
  split
  · omega
  · split
    · omega
    · exact growBy_le _ _ _ (by omega)

theorem zeroCells_eq (zv : Array Value) (h : 0 < zv.size) (n : Nat) : Builtin.zeroCells zv n = ((List.replicate n zv.toList).flatten).toArray := rep_rows zv h n
theorem flat_lenE (l : List Value) (n : Nat) : ((List.replicate n l).flatten).length = n * l.length := by simp


theorem append_fits {ts tx rt e : TypeId} {z n len cap : Nat} {x : Value} {new : List Value} {d : TypeDesc} {base : Option Addr} {w' : World} (hts : P.underlying ts = some (.slice e)) (hz : sizeT P e = some z) (hd : P.underlying tx = some d) (hni : ∀ k, d ≠ .int k)
    (hlen : (Builtin.lenOf x).run P w = .ok n w) (happ : (Builtin.firstCells z n x).run P w = .ok new.toArray w) (hfit : len + n ≤ cap)
    (hst : ∀ a, base = some a → (storeCells (a.add (len * z)) new).run P w = .ok () w') (hno : base = none → w' = w) :
    (Builtin.append_ #[ts, tx] rt #[.slice base len cap, x]).run P w = .ok (.slice base (len + n) cap) w' := by
  have hq : (match d with | .int _ => true | _ => false) = false := by cases d <;> first | rfl | exact (hni _ rfl).elim
  simp only [Builtin.append_, List.getElem?_toArray, List.getElem?_cons_zero, List.getElem?_cons_succ, Sem.run_bind, run_und hts, run_size hz, run_und hd, Result.andThen_ok, Sem.run_pure, hq, Bool.false_eq_true, if_false, hlen, Bool.not_false, if_true, hfit, happ]
  cases base with
  | none => rw [hno rfl]; rfl
  | some a => simp only [Sem.run_bind, hst a rfl, Result.andThen_ok, Sem.run_pure]

theorem append_moves {ts tx rt e : TypeId} {z n len cap : Nat} {x : Value} {old new : List Value} {d : TypeDesc} {base : Option Addr} {info : TypeInfo} {zv : Value} (hts : P.underlying ts = some (.slice e)) (hz : sizeT P e = some z) (hd : P.underlying tx = some d) (hni : ∀ k, d ≠ .int k)
    (hinfo : P.info? e = some info) (hb : info.bytes ≤ 1024) (hn : len + n ≤ 1048577) (hlen : (Builtin.lenOf x).run P w = .ok n w) (happ : ∀ w' : World, w'.heap = w.heap → (Builtin.firstCells z n x).run P w' = .ok new.toArray w') (hfit : ¬ len + n ≤ cap)
    (hold : ∀ w' : World, w'.heap = w.heap → (Builtin.firstCells z len (.slice base len cap)).run P w' = .ok old.toArray w') (hzv : ∀ w', (zeroValue e).run P w' = .ok zv w') (hzs : zv.cells.size = z) (hz0 : 0 < z) :
    ∃ k w' r, len + n ≤ k ∧ (Builtin.append_ #[ts, tx] rt #[.slice base len cap, x]).run P w = .ok (.slice (some ⟨w.heap.size, 0, none⟩) (len + n) k) w' ∧ w'.heap = w.heap.push (.cells (old ++ new ++ r).toArray e (0, 0)) ∧ Alike w w' ∧ r.length = (k - (len + n)) * z := by
  have hq : (match d with | .int _ => true | _ => false) = false := by cases d <;> first | rfl | exact (hni _ rfl).elim
  have hmax : ¬ (((len + n : Nat) : Int) > IntKind.i64.max ∧ (False ∨ info.bytes = 0)) := by
    have : IntKind.i64.max = 9223372036854775807 := by decide
    rw [this]; omega
  have hnext : ¬ (Builtin.nextslicecap (len + n) cap * info.bytes > 2 ^ 48) := by
    have h1 := next_le (len + n) cap (by omega)
    have h2 : Builtin.nextslicecap (len + n) cap * info.bytes ≤ 2097922 * 1024 := Nat.mul_le_mul (by omega) hb
    have h3 : (2 : Nat) ^ 48 = 281474976710656 := by decide
    omega
  let q : Question := .appendCap (len + n) cap e
  refine ⟨q.cut (w.tape w.drawn q), { w with heap := w.heap.push (.cells (old ++ new ++ (List.replicate (q.cut (w.tape w.drawn q) - (len + n)) zv.cells.toList).flatten).toArray e (0, 0)), drawn := w.drawn + 1 }, (List.replicate (q.cut (w.tape w.drawn q) - (len + n)) zv.cells.toList).flatten, Nat.le_add_right _ _, ?_, rfl, ⟨rfl, rfl, rfl⟩, by rw [flat_lenE, Array.length_toList, hzs]⟩
  simp only [Builtin.append_, List.getElem?_toArray, List.getElem?_cons_zero, List.getElem?_cons_succ, Sem.run_bind, run_und hts, run_size hz, run_und hd, Result.andThen_ok, Sem.run_pure, hq, Bool.false_eq_true, if_false, hlen, Bool.not_false, if_true, hfit, run_info hinfo]
  rw [if_neg (by simpa using hmax)]
  simp only [Sem.run_bind, run_info hinfo, Result.andThen_ok]
  rw [if_neg hnext]
  simp only [Sem.run_bind, run_info hinfo, run_choose, show Question.forced (.appendCap (len + n) cap e) = false from rfl, Bool.false_eq_true, if_false, Result.andThen_ok, run_askRoom]
  rw [hold { w with drawn := w.drawn + 1 } rfl]
  simp only [Result.andThen_ok]
  rw [happ { w with drawn := w.drawn + 1 } rfl]
  simp only [Result.andThen_ok, hzv]
  have hz2 : 0 < zv.cells.size := by omega
  simp only [zeroCells_eq _ hz2, newRow, Sem.run_bind, run_newObj, Result.andThen_ok, Sem.run_pure]
  congr 3
  simp [q]

/-- Noughts that are appended. -/
theorem appendz_fits {ts tx rt e : TypeId} {z n len cap : Nat} {kk k2 : IntKind} {base : Option Addr} {w' : World} {info : TypeInfo} {zv : Value} (hts : P.underlying ts = some (.slice e)) (hz : sizeT P e = some z) (hd : P.underlying tx = some (.int kk))
    (hinfo : P.info? e = some info) (hb : info.bytes ≤ 1024) (hn : n ≤ 1048576) (hzv : ∀ w', (zeroValue e).run P w' = .ok zv w') (hzs : zv.cells.size = z) (hz0 : 0 < z) (hfit : len + n ≤ cap)
    (hst : ∀ a, base = some a → (storeCells (a.add (len * z)) ((List.replicate n zv.cells.toList).flatten)).run P w = .ok () w') (hno : base = none → w' = w) :
    (Builtin.append_ #[ts, tx] rt #[.slice base len cap, .int k2 (Int.ofNat n)]).run P w = .ok (.slice base (len + n) cap) w' := by
  have hw : IntKind.i64.wrap (Int.ofNat n) = Int.ofNat n := wrap_small (by omega)
  have h1 : ¬ (Int.ofNat n < 0) := by have e0 : Int.ofNat n = (n : Int) := rfl; rw [e0]; omega
  have h2 : ¬ (Int.ofNat n * (info.bytes : Int) > 2 ^ 48) := by
    have h3 : n * info.bytes ≤ 1048576 * 1024 := Nat.mul_le_mul hn hb
    have h4 : (2 : Int) ^ 48 = 281474976710656 := by decide
    have h5 : Int.ofNat n * (info.bytes : Int) = ((n * info.bytes : Nat) : Int) := rfl
    rw [h4, h5]
    omega
  have h6 : (Int.ofNat n).toNat = n := rfl
  simp only [Builtin.append_, List.getElem?_toArray, List.getElem?_cons_zero, List.getElem?_cons_succ, Sem.run_bind, run_und hts, run_size hz, run_und hd, Result.andThen_ok, Sem.run_pure, if_true, asInt, asIntOf, hw]
  rw [if_neg h1]
  simp only [Sem.run_bind, run_info hinfo, Result.andThen_ok]
  rw [if_neg h2]
  simp only [Sem.run_bind, Sem.run_pure, Result.andThen_ok, h6]
  rw [if_pos hfit]
  simp only [Bool.not_true, Bool.false_eq_true, if_false]
  have happ : ((if n * z = 0 then pure #[] else (do let v ← zeroValue e; pure (Builtin.zeroCells v.cells n)) : Sem (Array Value))).run P w = .ok ((List.replicate n zv.cells.toList).flatten).toArray w := by
    by_cases h0 : n * z = 0
    · have : n = 0 := by
        rcases Nat.mul_eq_zero.1 h0 with h | h
        · exact h
        · omega
      subst this
      simp
    · rw [if_neg h0]
      simp only [Sem.run_bind, hzv, Result.andThen_ok, Sem.run_pure, zeroCells_eq _ (show 0 < zv.cells.size by omega)]
  simp only [Sem.run_bind, happ, Result.andThen_ok]
  cases base with
  | none => rw [hno rfl]; rfl
  | some a => simp only [Sem.run_bind, hst a rfl, Result.andThen_ok, Sem.run_pure]
theorem appendz_moves {ts tx rt e : TypeId} {z n len cap : Nat} {kk k2 : IntKind} {old : List Value} {base : Option Addr} {info : TypeInfo} {zv : Value} (hts : P.underlying ts = some (.slice e)) (hz : sizeT P e = some z) (hd : P.underlying tx = some (.int kk))
    (hinfo : P.info? e = some info) (hb : info.bytes ≤ 1024) (hn : len + n ≤ 1048577) (hn2 : n ≤ 1048576) (hfit : ¬ len + n ≤ cap)
    (hold : ∀ w' : World, w'.heap = w.heap → (Builtin.firstCells z len (.slice base len cap)).run P w' = .ok old.toArray w') (hzv : ∀ w', (zeroValue e).run P w' = .ok zv w') (hzs : zv.cells.size = z) (hz0 : 0 < z) :
    ∃ k w' r, len + n ≤ k ∧ (Builtin.append_ #[ts, tx] rt #[.slice base len cap, .int k2 (Int.ofNat n)]).run P w = .ok (.slice (some ⟨w.heap.size, 0, none⟩) (len + n) k) w' ∧ w'.heap = w.heap.push (.cells (old ++ (List.replicate n zv.cells.toList).flatten ++ r).toArray e (0, 0)) ∧ Alike w w' ∧ r.length = (k - (len + n)) * z := by
  have hw : IntKind.i64.wrap (Int.ofNat n) = Int.ofNat n := wrap_small (by omega)
  have h1 : ¬ (Int.ofNat n < 0) := by have e0 : Int.ofNat n = (n : Int) := rfl; rw [e0]; omega
  have h2 : ¬ (Int.ofNat n * (info.bytes : Int) > 2 ^ 48) := by
    have h3 : n * info.bytes ≤ 1048576 * 1024 := Nat.mul_le_mul hn2 hb
    have h4 : (2 : Int) ^ 48 = 281474976710656 := by decide
    have h5 : Int.ofNat n * (info.bytes : Int) = ((n * info.bytes : Nat) : Int) := rfl
    rw [h4, h5]
    omega
  have h6 : (Int.ofNat n).toNat = n := rfl
  have hmax : ¬ (((len + n : Nat) : Int) > IntKind.i64.max ∧ (True ∨ info.bytes = 0)) := by
    have : IntKind.i64.max = 9223372036854775807 := by decide
    rw [this]; omega
  have hnext : ¬ (Builtin.nextslicecap (len + n) cap * info.bytes > 2 ^ 48) := by
    have h1 := next_le (len + n) cap (by omega)
    have h2 : Builtin.nextslicecap (len + n) cap * info.bytes ≤ 2097922 * 1024 := Nat.mul_le_mul (by omega) hb
    have h3 : (2 : Nat) ^ 48 = 281474976710656 := by decide
    omega
  have happ : ∀ w : World, ((if n * z = 0 then pure #[] else (do let v ← zeroValue e; pure (Builtin.zeroCells v.cells n)) : Sem (Array Value))).run P w = .ok ((List.replicate n zv.cells.toList).flatten).toArray w := fun w => by
    by_cases h0 : n * z = 0
    · have : n = 0 := by
        rcases Nat.mul_eq_zero.1 h0 with h | h
        · exact h
        · omega
      subst this
      simp
    · rw [if_neg h0]
      simp only [Sem.run_bind, hzv, Result.andThen_ok, Sem.run_pure, zeroCells_eq _ (show 0 < zv.cells.size by omega)]
  let q : Question := .appendCap (len + n) cap e
  refine ⟨q.cut (w.tape w.drawn q), { w with heap := w.heap.push (.cells (old ++ (List.replicate n zv.cells.toList).flatten ++ (List.replicate (q.cut (w.tape w.drawn q) - (len + n)) zv.cells.toList).flatten).toArray e (0, 0)), drawn := w.drawn + 1 }, (List.replicate (q.cut (w.tape w.drawn q) - (len + n)) zv.cells.toList).flatten, Nat.le_add_right _ _, ?_, rfl, ⟨rfl, rfl, rfl⟩, by rw [flat_lenE, Array.length_toList, hzs]⟩
  simp only [Builtin.append_, List.getElem?_toArray, List.getElem?_cons_zero, List.getElem?_cons_succ, Sem.run_bind, run_und hts, run_size hz, run_und hd, Result.andThen_ok, Sem.run_pure, if_true, asInt, asIntOf, hw]
  rw [if_neg h1]
  simp only [Sem.run_bind, run_info hinfo, Result.andThen_ok]
  rw [if_neg h2]
  simp only [Sem.run_bind, Sem.run_pure, Result.andThen_ok, h6]
  rw [if_neg hfit]
  simp only [Sem.run_bind, run_info hinfo, Result.andThen_ok]
  rw [if_neg (by simpa using hmax)]
  simp only [Sem.run_bind, run_info hinfo, Result.andThen_ok]
  rw [if_neg hnext]
  simp only [Sem.run_bind, run_choose, show Question.forced (.appendCap (len + n) cap e) = false from rfl, Bool.false_eq_true, if_false, Result.andThen_ok, run_askRoom, run_info hinfo]
  rw [hold { w with drawn := w.drawn + 1 } rfl]
  simp only [Result.andThen_ok, Bool.not_true, Bool.false_eq_true, if_false]
  rw [happ _]
  simp only [Result.andThen_ok, hzv]
  have hz2 : 0 < zv.cells.size := by omega
  simp only [zeroCells_eq _ hz2, newRow, Sem.run_bind, run_newObj, Result.andThen_ok, Sem.run_pure]
  congr 3
  simp [q]
end
end Go.Proofs.YtndpcphmndfajaaGreatDoor

namespace Go.Proofs.YtndpcphmndfajaaGreatDoor
open Go.RowKit
set_option linter.unusedVariables false
set_option linter.unusedSimpArgs false

section
variable {X : Cx} {P : Program} {w : World} {ρ : Ren}

/-- What an append's second operand comes to, in each world with this memory. -/
structure Src (P : Program) (w : World) (tx e : TypeId) (z : Nat) (u : Value) (n : Nat) (us : List Value) : Prop where
  fit : ∀ {ts rt : TypeId} {len cap : Nat} {base : Option Addr} {w' : World}, P.underlying ts = some (.slice e) → len + n ≤ cap →
    (∀ a, base = some a → (storeCells (a.add (len * z)) us).run P w = .ok () w') → (base = none → w' = w) → (Builtin.append_ #[ts, tx] rt #[.slice base len cap, u]).run P w = .ok (.slice base (len + n) cap) w'
  move : ∀ {ts rt : TypeId} {len cap : Nat} {base : Option Addr} {old : List Value}, P.underlying ts = some (.slice e) → len + n ≤ 1048577 → ¬ len + n ≤ cap →
    (∀ w' : World, w'.heap = w.heap → (Builtin.firstCells z len (.slice base len cap)).run P w' = .ok old.toArray w') →
    ∃ k w' r, len + n ≤ k ∧ (Builtin.append_ #[ts, tx] rt #[.slice base len cap, u]).run P w = .ok (.slice (some ⟨w.heap.size, 0, none⟩) (len + n) k) w' ∧ w'.heap = w.heap.push (.cells (old ++ us ++ r).toArray e (0, 0)) ∧ Alike w w' ∧ r.length = (k - (len + n)) * z

theorem src_plain {tx e : TypeId} {z n : Nat} {u : Value} {us : List Value} {d : TypeDesc} {info : TypeInfo} {zv : Value} (hz : sizeT P e = some z) (hd : P.underlying tx = some d) (hni : ∀ k, d ≠ .int k)
    (hinfo : P.info? e = some info) (hb : info.bytes ≤ 1024) (hzv : ∀ w', (zeroValue e).run P w' = .ok zv w') (hzs : zv.cells.size = z) (hz0 : 0 < z)
    (hlen : (Builtin.lenOf u).run P w = .ok n w) (happ : ∀ w' : World, w'.heap = w.heap → (Builtin.firstCells z n u).run P w' = .ok us.toArray w') : Src P w tx e z u n us where
  fit := fun hts hfit hst hno => append_fits hts hz hd hni hlen (happ w rfl) hfit hst hno
  move := fun hts hn hfit hold => append_moves hts hz hd hni hinfo hb hn hlen happ hfit hold hzv hzs hz0

theorem zFits_ok {e : TypeId} {z : Nat} (h : zFits P e z = true) : ∃ zc zv, zeroT P e = some zc ∧ (∀ w', (zeroValue e).run P w' = .ok zv w') ∧ zv.cells.size = z ∧ 0 < z ∧ ∀ ρ : Ren, VRs ρ zc zv.cells.toList := by
  unfold zFits at h
  split at h
  · rename_i zc hz
    simp only [Bool.and_eq_true] at h
    have h1 := Nat.eq_of_beq_eq_true h.1
    have h2 := blt_t h.2
    obtain ⟨zv, h3, h4⟩ := run_zero (w := default) (ρ := ⟨fun _ _ => False, fun _ => False, fun _ _ => False⟩) hz
    have hrun : ∀ w', (zeroValue e).run P w' = .ok zv w' := by
      intro w'
      unfold zeroT at hz
      cases hi : P.info? e with
      | none => rw [hi] at hz; cases hz
      | some i =>
        rw [hi] at hz
        simp only at hz
        cases hzz : i.zero with
        | none => rw [hzz] at hz; cases hz
        | some v =>
          simp only [zeroValue, Sem.run_bind, run_info hi, Result.andThen_ok, hzz, Sem.run_pure, Result.ok.injEq, and_true] at h3
          subst h3
          simp [zeroValue, run_info hi, hzz]
    refine ⟨zc, zv, hz, hrun, by rw [← Array.length_toList, h4.len, h1], h2, fun ρ => ?_⟩
    exact h4.mono ⟨fun _ _ h => False.elim h, fun _ h => False.elim h, fun _ _ h => False.elim h⟩
  · cases h

/-- The marks of a source. -/
def SeesOnly (S S1 : St) (F : Nat → Prop) : Prop := S1 = S ∨ ∃ b c, S1 = S.saw b ∧ S.H.get b = some c
theorem addCells_ok {tx e : TypeId} {z n : Nat} {S S1 : St} {x : SV} {new : List SV} {info : TypeInfo} (h : addCells X.E.P S tx e z x = some (n, new, S1)) (hf : zFits X.E.P e z = true) (hz : sizeT X.E.P e = some z) (hinfo : X.E.P.info? e = some info) (hb : info.bytes ≤ 1024) :
    (S1 = S ∨ ∃ b c, S1 = S.saw b ∧ S.H.get b = some c) ∧ new.length = n * z ∧
    ∀ (F : Nat → Prop) (ρ : Ren) (w : World) (u : Value), (∀ b c, S1 = S.saw b → S.H.get b = some c → F b) → MR X F ρ S.H w → VR ρ x u → ∃ us, VRs ρ new us ∧ Src X.E.P w tx e z u n us := by
  obtain ⟨zc, zv, hzt, hzv, hzs, hz0, hzr⟩ := zFits_ok hf
  unfold addCells at h
  cases hd : X.E.P.underlying tx with
  | none => rw [hd] at h; cases h
  | some d =>
    rw [hd] at h
    by_cases hi : ∃ k, d = .int k
    · obtain ⟨k, rfl⟩ := hi
      simp only [hzt] at h
      split at h
      · rename_i k2 m zc' e2
        split at h
        · rename_i hc
          simp only [Option.some.injEq, Prod.mk.injEq] at h e2
          obtain ⟨rfl, rfl, rfl⟩ := h
          subst e2
          simp only [Bool.and_eq_true] at hc
          have hn := Nat.le_of_ble_eq_true hc.1.1
          have hl := Nat.eq_of_beq_eq_true hc.1.2
          refine ⟨.inl rfl, by rw [repZ_len, hl], fun F ρ w u _ hm hu => ?_⟩
          simp only [VR] at hu
          subst hu
          refine ⟨(List.replicate m zv.cells.toList).flatten, (hzr ρ).rep m, ?_, ?_⟩
          · intro ts rt len cap base w' hts hfit hst hno
            exact appendz_fits hts hz hd hinfo hb hn hzv hzs hz0 hfit hst hno
          · intro ts rt len cap base old hts hn2 hfit hold
            exact appendz_moves hts hz hd hinfo hb hn2 hn hfit hold hzv hzs hz0
        · cases h
      · cases h
    · have hni : ∀ k, d ≠ .int k := fun k e => hi ⟨k, e⟩
      have h2 : srcCells S z x = some (n, new, S1) := by cases d <;> first | exact h | exact (hni _ rfl).elim
      clear h
      have h := h2
      clear h2
      unfold srcCells at h
      split at h
      · rename_i l
        split at h
        · rename_i hz1
          have hz1 := Nat.eq_of_beq_eq_true hz1
          simp only [Option.some.injEq, Prod.mk.injEq] at h
          obtain ⟨rfl, rfl, rfl⟩ := h
          refine ⟨.inl rfl, by simp [toCells, hz1], fun F ρ w u _ hm hu => ?_⟩
          simp only [VR] at hu
          obtain ⟨rfl, hl⟩ := hu
          refine ⟨_, toCells_vr l, src_plain hz hd hni hinfo hb hzv hzs hz0 (by simp [Builtin.lenOf, bs_size]) (fun w' _ => ?_)⟩
          have e1 : (bs l).extract 0 l.length = bs l := by rw [bs_extract]; simp
          simp only [Builtin.firstCells, e1, bs_cells hl, Sem.run_pure]
        · cases h
      · simp only [Option.some.injEq, Prod.mk.injEq] at h
        obtain ⟨rfl, rfl, rfl⟩ := h
        refine ⟨.inl rfl, by simp, fun F ρ w u _ hm hu => ?_⟩
        simp only [VR] at hu
        subst hu
        exact ⟨[], vrs_nil.2 rfl, src_plain hz hd hni hinfo hb hzv hzs hz0 (by simp [Builtin.lenOf]) (fun w' _ => by simp [Builtin.firstCells])⟩
      · simp only [Option.some.injEq, Prod.mk.injEq] at h
        obtain ⟨rfl, rfl, rfl⟩ := h
        refine ⟨.inl rfl, by simp, fun F ρ w u _ hm hu => ?_⟩
        simp only [VR] at hu
        obtain ⟨a, k, _, rfl⟩ := hu
        exact ⟨[], vrs_nil.2 rfl, src_plain hz hd hni hinfo hb hzv hzs hz0 (by simp [Builtin.lenOf]) (fun w' _ => by simp [Builtin.firstCells, loadCells, loadCellsFrom])⟩
      · rename_i b o m c
        cases hr : rdCells S b o (m * z) with
        | none => rw [hr] at h; cases h
        | some l =>
          rw [hr] at h
          simp only [Option.some.injEq, Prod.mk.injEq] at h
          obtain ⟨rfl, rfl, rfl⟩ := h
          obtain ⟨cs, e', hb', hk, rfl⟩ := rdCells_inv hr
          refine ⟨.inr ⟨b, _, rfl, hb'⟩, by simp; omega, fun F ρ w u hF hm hu => ?_⟩
          have hFb : F b := hF b _ rfl hb'
          simp only [VR] at hu
          obtain ⟨q, k, hq, _, _, _, rfl⟩ := hu
          obtain ⟨q', ob, h1, h2, h3⟩ := hm.hp b _ hFb hb'
          have hdd : ¬ρ.d b := fun e => by rw [hm.dd b hFb e] at hb'; cases hb'
          obtain rfl := hm.fn b q q' hdd hq h1
          obtain ⟨us, h4, h5⟩ := rd_run (P := X.E.P) hk h2 h3
          refine ⟨us, h5, src_plain hz hd hni hinfo hb hzv hzs hz0 (by simp [Builtin.lenOf]) (fun w' hw' => ?_)⟩
          obtain ⟨us', h6, h7⟩ := rd_run (P := X.E.P) (w := w') hk (by rw [hw']; exact h2) h3
          have : us' = us := by
            obtain ⟨a, bb, e2, fz, g1, rfl, g3⟩ := h3
            have e1 := load_run (P := X.E.P) h2 (o := o) (k := m * z) (by have := g1.len; simp; omega)
            have e3 := load_run (P := X.E.P) (w := w') (by rw [hw']; exact h2) (o := o) (k := m * z) (by have := g1.len; simp; omega)
            rw [h4] at e1
            rw [h6] at e3
            injection e1 with e1
            injection e3 with e3
            rw [← e3] at e1
            have e4 := congrArg Array.toList e1
            simpa using e4.symm
          subst this
          exact h6
      · cases h

/-! ### The cases of an append -/
/-- What is shown of an append behind its source: 'S' the state there. -/
def ApTri (X : Cx) (tx e : TypeId) (z : Nat) (s v : SV) (n : Nat) (new : List SV) (S S' : St) : Prop :=
  OkE S → OkE S' ∧ Ext S S' ∧ ∀ F ρ w us u su ts rt, (∀ b, b < S.c → (S'.r.testBit b = true ∨ S'.w.testBit b = true) → F b) → Frsh ρ S.c S'.c → MR X F ρ S.H w →
    VRs ρ new us → Src X.E.P w tx e z u n us → VR ρ s su → X.E.P.underlying ts = some (.slice e) →
    ∃ q w' σ, (Builtin.append_ #[ts, tx] rt #[su, u]).run X.E.P w = .ok q w' ∧ VR σ v q ∧ Stp S'.w S.c S'.c S'.H ρ σ w w' ∧ MR X (FN F S.c S'.c) σ S'.H w'

theorem room_app {z k : Nat} {e e' : TypeId} {old us r : List Value} {l : List SV} {n len : Nat} (hz : sizeT P e = some z) (ho : old.length = len * z) (hu : us.length = n * z) (hr : r.length = (k - (len + n)) * z) (hk : len + n ≤ k) :
    Room P (.cells l e) (.cells (old ++ us ++ r).toArray e' (0, 0)) (fun q => q = k) := by
  intro l' t q z' he hq hz'
  injection he with e1 e2
  subst e2
  rw [hz] at hz'
  injection hz' with hz'
  subst hz'
  subst hq
  refine ⟨_, _, _, rfl, ?_⟩
  have : q * z = len * z + n * z + (q - (len + n)) * z := by rw [← Nat.add_mul, ← Nat.add_mul]; congr 1; omega
  simp only [List.size_toArray, List.length_append, ho, hu, hr]
  omega

theorem ap_move {tx e : TypeId} {z n len : Nat} {s : SV} {new old : List SV} {S S0 : St} (hS : S0.H = S.H ∧ S0.c = S.c ∧ S0.w = S.w ∧ Ext S S0) (hz : sizeT X.E.P e = some z) (hnew : new.length = n * z) (hold : old.length = len * z) (hn : len + n ≤ 1048577)
    (hs : ∀ F ρ w su, (∀ b, b < S.c → ((S0.new (.cells (old ++ new) e)).r.testBit b = true ∨ (S0.new (.cells (old ++ new) e)).w.testBit b = true) → F b) → MR X F ρ S.H w → VR ρ s su → ∃ base cap os, su = .slice base len cap ∧ ¬ len + n ≤ cap ∧ VRs ρ old os ∧ ∀ w' : World, w'.heap = w.heap → (Builtin.firstCells z len su).run X.E.P w' = .ok os.toArray w') :
    ApTri X tx e z s (.sl S0.c 0 (len + n) none) n new S (S0.new (.cells (old ++ new) e)) := by
  obtain ⟨h1, h2, h3, h4⟩ := hS
  have hget : ∀ k, (S0.new (.cells (old ++ new) e)).H.get k = (S.new (.cells (old ++ new) e)).H.get k := fun k => by rw [get_new, get_new, h1, h2]
  have hH : (S0.new (.cells (old ++ new) e)).H = (S.new (.cells (old ++ new) e)).H := by simp only [St.new, h1, h2]
  intro hok
  have hok0 : OkE S0 := fun b x hx => by rw [h1] at hx; rw [h2]; exact hok b x hx
  refine ⟨ok_new hok0, h4.trans (ext_new _ _), fun F ρ w us u su ts rt hF hf hm hus hsrc hsu hts => ?_⟩
  obtain ⟨base, cap, os, rfl, hfit, hos, hrun⟩ := hs F ρ w su hF hm hsu
  obtain ⟨k, w', r, g1, g2, g3, g4, g5⟩ := hsrc.move (rt := rt) hts hn hfit hrun
  have hlu := hus.len
  have hlo := hos.len
  have hf' : Frsh ρ S.c (S.c + 1) := by
    have : (S0.new (.cells (old ++ new) e)).c = S.c + 1 := by show S0.c + 1 = _; rw [h2]
    rw [this] at hf; exact hf
  have hc' : (S0.new (.cells (old ++ new) e)).c = S.c + 1 := by show S0.c + 1 = _; rw [h2]
  refine ⟨_, w', addR ρ S.c w.heap.size (fun q => q = k), g2, ?_, ?_, ?_⟩
  · simp only [VR]
    exact ⟨w.heap.size, k, .inr ⟨h2, rfl⟩, g1, fun _ e => (by cases e), fun _ _ => .inr ⟨h2, rfl⟩, rfl⟩
  · rw [hc']; exact stp_new g3 g4
  · rw [hc', hH]
    refine mr_new hm hf' g3 g4 ?_ (room_app hz (by omega) (by omega) g5 g1)
    exact br_more ((hos.app hus).mono (addR_le _ _ _ _))

theorem apNew_ok {k : Bool} {S S' : St} {n : Nat} {new : List SV} {e : TypeId} {v : SV} (h : apNew k S n new e = some (v, S')) : k = true ∧ v = .sl S.c 0 n none ∧ S' = S.new (.cells new e) := by
  cases k with
  | false => cases h
  | true =>
    simp only [apNew, Option.some.injEq, Prod.mk.injEq] at h
    exact ⟨rfl, h.1.symm, h.2.symm⟩

theorem ap_none {tx e : TypeId} {z : Nat} {s : SV} {S S' : St} (hS : S' = S ∨ ∃ b c, S' = S.saw b ∧ S.H.get b = some c)
    (hs : ∀ ρ su, VR ρ s su → ∃ base len cap, su = .slice base len cap ∧ len ≤ cap) : ApTri X tx e z s s 0 [] S S' := by
  intro hok
  have hext : Ext S S' := by
    rcases hS with rfl | ⟨b, c, rfl, _⟩
    · exact .refl _
    · exact ext_saw _ _
  have hH : S'.H = S.H := by rcases hS with rfl | ⟨b, c, rfl, _⟩ <;> rfl
  have hc : S'.c = S.c := by rcases hS with rfl | ⟨b, c, rfl, _⟩ <;> rfl
  refine ⟨fun b x hx => by rw [hH] at hx; rw [hc]; exact hok b x hx, hext, fun F ρ w us u su ts rt hF hf hm hus hsrc hsu hts => ?_⟩
  rw [vrs_nil] at hus
  subst hus
  obtain ⟨base, len, cap, rfl, hle⟩ := hs ρ su hsu
  refine ⟨_, w, ρ, hsrc.fit hts (by omega) (w' := w) (fun a ha => by simp [storeCells]) (fun _ => rfl), hsu, by rw [hc]; exact .refl, ?_⟩
  rw [hc, hH]
  exact hm.sub FN.same

theorem apSl_ok {tx e : TypeId} {z n b o len : Nat} {cap : Option Nat} {v : SV} {new old : List SV} {S S' : St} (hz : sizeT X.E.P e = some z) (hz0 : 0 < z) (hnew : new.length = n * z) (hone : allOne new = true) (hng : X.E.ng ≤ b) (hn : len + n ≤ 1048576)
    (hold : rdCells S b o (len * z) = some old) (h : apSl old b o len cap n new e z X.E.ng S = some (v, S')) : ApTri X tx e z (.sl b o len cap) v n new S S' := by
  obtain ⟨cs, e', hb, hk, rfl⟩ := rdCells_inv hold
  cases n with
  | zero =>
    simp only [apSl, Option.some.injEq, Prod.mk.injEq] at h
    obtain ⟨rfl, rfl⟩ := h
    have : new = [] := by
      apply List.eq_nil_of_length_eq_zero
      omega
    subst this
    refine ap_none (.inr ⟨b, _, rfl, hb⟩) fun ρ su hsu => ?_
    simp only [VR] at hsu
    obtain ⟨m, k, _, h1, _, _, rfl⟩ := hsu
    exact ⟨_, _, _, rfl, h1⟩
  | succ n =>
    have read : ∀ (F : Nat → Prop) (ρ : Ren) (w : World) (su : Value), F b → MR X F ρ S.H w → VR ρ (.sl b o len cap) su → ∃ m k os ob, su = .slice (some ⟨m, o, none⟩) len k ∧ len ≤ k ∧ (∀ c', cap = some c' → k = c') ∧ (cap = none → o = 0 → ρ.q b k) ∧ ρ.r b m ∧ ¬ρ.d b ∧ w.heap[m]? = some ob ∧ BR ρ (.cells cs e') ob ∧ VRs ρ ((cs.drop o).take (len * z)) os ∧ (∀ w' : World, w'.heap = w.heap → (Builtin.firstCells z len su).run X.E.P w' = .ok os.toArray w') := by
      intro F ρ w su hFb hm hsu
      simp only [VR] at hsu
      obtain ⟨m, k, hr, h1, h2, h3, rfl⟩ := hsu
      obtain ⟨m', ob, g1, g2, g3⟩ := hm.hp b _ hFb hb
      have hdd : ¬ρ.d b := fun e => by rw [hm.dd b hFb e] at hb; cases hb
      obtain rfl := hm.fn b m m' hdd hr g1
      have g3' := g3
      obtain ⟨a, bb, e2, fz, q1, rfl, q3⟩ := g3'
      refine ⟨m, k, (a.drop o).take (len * z), _, rfl, h1, h2, h3, hr, hdd, g2, g3, (q1.drop o).take _, fun w' hw' => ?_⟩
      simp only [Builtin.firstCells]
      rw [load_run (w := w') (by rw [hw']; exact g2) (by have := q1.len; simp; omega), q1.app_len hk]
    cases cap with
    | some c =>
      simp only [apSl] at h
      cases hc : Nat.ble (len + (n + 1)) c with
      | true =>
        rw [hc] at h
        have hc := Nat.le_of_ble_eq_true hc
        cases hw : wrCells X.E.ng S b (o + len * z) new with
        | none => rw [hw] at h; cases h
        | some S2 =>
          rw [hw] at h
          simp only [apPut, Option.some.injEq, Prod.mk.injEq] at h
          obtain ⟨rfl, rfl⟩ := h
          obtain ⟨cs2, e2, hb2, h1, h2, h3, rfl⟩ := wrCells_inv hw
          rw [hb] at hb2
          injection hb2 with hb2
          injection hb2 with hb2 hb3
          subst hb2; subst hb3
          intro hok
          have hlt := hok b _ hb
          refine ⟨ok_wr hok hlt, (ext_wr _ _ _ (.inl (by rw [hb]; simp))).trans (ext_saw _ _), fun F ρ w us u su ts rt hF hf hm hus hsrc hsu hts => ?_⟩
          have hFb : F b := hF b hlt (.inr (wr_bit S b none))
          obtain ⟨m, k, os, ob, rfl, g1, g2, g3, g4, g5, g6, g7, g8, g9⟩ := read F ρ w su hFb hm hsu
          obtain ⟨o', q1, q2, q3⟩ := wr_run (P := X.E.P) h1 hus h3 g6 g7
          have hkc := g2 c rfl
          subst hkc
          refine ⟨_, { w with heap := w.heap.setIfInBounds m o' }, ρ, hsrc.fit hts hc (fun a ha => ?_) (fun e => by cases e), ?_, stp_wr (wr_bit S b none) g5 g4 rfl ⟨rfl, rfl, rfl⟩, ?_⟩
          · injection ha with ha
            subst ha
            rw [addr_add]
            exact q1
          · simp only [VR]
            exact ⟨m, k, g4, hc, fun _ e => (by injection e), (fun e => by cases e), rfl⟩
          · exact (mr_wr (w' := { w with heap := w.heap.setIfInBounds m o' }) hm hFb hb g4 hng rfl ⟨rfl, rfl, rfl⟩ q2 (by rw [g6]; exact q3)).sub FN.same
      | false =>
        rw [hc] at h
        have hc : ¬ len + (n + 1) ≤ c := fun e => by rw [Nat.ble_eq_true_of_le e] at hc; cases hc
        obtain ⟨h1, rfl, rfl⟩ := apNew_ok h
        intro hok
        have hlt := hok b _ hb
        refine ap_move (S0 := S.saw b) ⟨rfl, rfl, rfl, ext_saw _ _⟩ hz hnew (by simp; omega) (by omega) (fun F ρ w su hF hm hsu => ?_) hok
        have hFb : F b := hF b hlt (.inl (by show (Nat.lor S.r (Nat.shiftLeft 1 b)).testBit b = true; rw [bit_lor]; simp))
        obtain ⟨m, k, os, ob, rfl, g1, g2, g3, g4, g5, g6, g7, g8, g9⟩ := read F ρ w su hFb hm hsu
        have hkc := g2 c rfl
        subst hkc
        exact ⟨_, k, os, rfl, hc, g8, g9⟩
    | none =>
      simp only [apSl, hb, apGrow] at h
      cases hc : Nat.beq o 0 && Nat.beq e' e with
      | false => rw [hc] at h; cases h
      | true =>
        rw [hc] at h
        simp only [Bool.and_eq_true] at hc
        have ho := Nat.eq_of_beq_eq_true hc.1
        have he := Nat.eq_of_beq_eq_true hc.2
        subst ho; subst he
        simp only [Option.some.injEq, Prod.mk.injEq] at h
        obtain ⟨rfl, rfl⟩ := h
        intro hok
        have hlt := hok b _ hb
        have hbit : ((S.wr b none).new (.cells (cs.take (len * z) ++ new) e')).w.testBit b = true := wr_bit S b none
        refine ⟨ok_new (ok_wr hok hlt), (ext_wr _ _ _ (.inr rfl)).trans (ext_new _ _), fun F ρ w us u su ts rt hF hf hm hus hsrc hsu hts => ?_⟩
        have hFb : F b := hF b hlt (.inr hbit)
        obtain ⟨m, k, os, ob, rfl, g1, g2, g3, g4, g5, g6, g7, g8, g9⟩ := read F ρ w su hFb hm hsu
        simp only [List.drop_zero] at g8
        have hq := g3 rfl rfl
        have hf' : Frsh ρ S.c (S.c + 1) := hf
        have hlu := hus.len
        by_cases hfit : len + (n + 1) ≤ k
        · obtain ⟨c0, t0, f0, q1, q2⟩ := hm.cp b m cs e' k z hFb hb g4 hq hz
          obtain ⟨a, bb, e2, fz, p1, rfl, p3⟩ := g7
          rw [g6] at q1
          injection q1 with q1
          injection q1 with q1 q1b q1c
          subst q1
          have hal := p1.len
          have hsz : k * z ≤ (a ++ bb).length := by simpa using q2
          have hmul : (len + (n + 1)) * z ≤ k * z := Nat.mul_le_mul_right _ hfit
          have hadd : (len + (n + 1)) * z = len * z + (n + 1) * z := Nat.add_mul _ _ _
          have hrun := store_run (P := X.E.P) (o := 0 + len * z) us 0 (a ++ bb) w g6 (by omega) p3 (allOne_spec hone hus)
          have hset : setL (a ++ bb) (len * z) us = (a.take (len * z) ++ us) ++ (a ++ bb).drop (len * z + us.length) := by
            unfold setL
            rw [List.take_append_of_le_length (by omega), List.append_assoc]
          rw [show 0 + len * z + 0 = len * z by omega, hset] at hrun
          refine ⟨_, { w with heap := w.heap.setIfInBounds m (.cells ((a.take (len * z) ++ us) ++ (a ++ bb).drop (len * z + us.length)).toArray e2 fz) }, addR (killR ρ b) S.c m (fun q => q = k), hsrc.fit hts hfit (fun a' ha => ?_) (fun e => by cases e), ?_, stp_move hbit g5 hlt g4 rfl ⟨rfl, rfl, rfl⟩, ?_⟩
          · injection ha with ha
            subst ha
            rw [addr_add]
            exact hrun
          · simp only [VR]
            exact ⟨m, k, .inr ⟨rfl, rfl⟩, hfit, fun _ e => (by cases e), fun _ _ => .inr ⟨rfl, rfl⟩, rfl⟩
          · have hBR : BR (addR (killR ρ b) S.c m (fun q => q = k)) (.cells (cs.take (len * z) ++ new) e') (.cells ((a.take (len * z) ++ us) ++ (a ++ bb).drop (len * z + us.length)).toArray e2 fz) := by
              refine ⟨a.take (len * z) ++ us, (a ++ bb).drop (len * z + us.length), e2, fz, ((p1.take _).app hus).mono ((killR_le _ _).trans (addR_le _ _ _ _)), rfl, fun q hq2 => ?_⟩
              rw [← hset, setL_length _ _ _ (by omega)] at hq2
              exact p3 q hq2
            have hRoom : Room X.E.P (.cells (cs.take (len * z) ++ new) e') (.cells ((a.take (len * z) ++ us) ++ (a ++ bb).drop (len * z + us.length)).toArray e2 fz) (fun q => q = k) := by
              intro l' t q z' he' hq2 hz'
              injection he' with e1 e3
              subst e3
              rw [hz] at hz'
              injection hz' with hz'
              subst hz'
              subst hq2
              refine ⟨_, _, _, rfl, ?_⟩
              rw [List.size_toArray, ← hset, setL_length _ _ _ (by omega)]
              exact hsz
            exact mr_move (w' := { w with heap := w.heap.setIfInBounds m (.cells ((a.take (len * z) ++ us) ++ (a ++ bb).drop (len * z + us.length)).toArray e2 fz) }) hm hf' hFb hlt hb g4 hng rfl ⟨rfl, rfl, rfl⟩ hBR hRoom
        · obtain ⟨k', w', r, q1, q2, q3, q4, q5⟩ := hsrc.move (rt := rt) hts (by omega) hfit g9
          have hk1 := mr_kill (S := S) hm hng
          have hs1 : Stp ((S.wr b none).new (.cells (cs.take (len * z) ++ new) e')).w S.c S.c (S.wr b none).H ρ (killR ρ b) w w := stp_kill hbit hlt
          have hf1 : Frsh (killR ρ b) S.c (S.c + 1) := hs1.frsh hf' (Nat.le_refl _)
          have hlo := g8.len
          have hlo2 : os.length = len * z := by rw [hlo]; simp; omega
          refine ⟨_, w', addR (killR ρ b) S.c w.heap.size (fun q => q = k'), q2, ?_, ?_, ?_⟩
          · simp only [VR]
            exact ⟨_, k', .inr ⟨rfl, rfl⟩, q1, fun _ e => (by cases e), fun _ _ => .inr ⟨rfl, rfl⟩, rfl⟩
          · refine hs1.trans (stp_new (S := S.wr b none) q3 q4) (fun _ h => h) (Nat.le_refl _) (Nat.le_succ _) (fun x hx hn' => ?_)
            rw [get_new, if_neg (by show x ≠ S.c; omega)]
            exact hn'
          · refine mr_new (S := S.wr b none) hk1 hf1 q3 q4 ?_ (room_app hz hlo2 (by omega) q5 q1)
            exact br_more ((g8.app hus).mono ((killR_le _ _).trans (addR_le _ _ _ _)))

theorem evAppend_tri {S S' : St} {ts : List TypeId} {s x v : SV} (h : evAppend X.E.P X.E.ng S ts s x = some (v, S')) :
    Tri X S S' v (fun ρ q => ∃ su u rt, VR ρ s su ∧ VR ρ x u ∧ q = Builtin.append_ ts.toArray rt #[su, u]) := by
  unfold evAppend at h
  split at h
  · rename_i ts tx
    cases he : elemT X.E.P ts with
    | none => rw [he] at h; cases h
    | some ez =>
      obtain ⟨e, z⟩ := ez
      obtain ⟨hts, hz⟩ := elemT_und he
      rw [he] at h
      simp only [apE] at h
      cases hi : X.E.P.info? e with
      | none => rw [hi] at h; cases h
      | some info =>
        rw [hi] at h
        simp only [apI] at h
        cases hadd : addCells X.E.P S tx e z x with
        | none => rw [hadd] at h; cases h
        | some r =>
          obtain ⟨n, new, S1⟩ := r
          rw [hadd] at h
          simp only [apOk] at h
          cases hc : allOne new && Nat.ble info.bytes 1024 && zFits X.E.P e z with
          | false => rw [hc] at h; cases h
          | true =>
            rw [hc] at h
            simp only [Bool.and_eq_true] at hc
            obtain ⟨⟨hone, hb⟩, hfz⟩ := hc
            have hb := Nat.le_of_ble_eq_true hb
            obtain ⟨hS1, hnew, hsrc⟩ := addCells_ok hadd hfz hz hi hb
            have hz0 : 0 < z := by obtain ⟨_, _, _, _, _, h, _⟩ := zFits_ok hfz; exact h
            have hap : ApTri X tx e z s v n new S1 S' := by
              replace h : apS s n new e z X.E.ng S1 = some (v, S') := h
              unfold apS at h
              split at h
              · split at h
                · simp only [Option.some.injEq, Prod.mk.injEq] at h
                  obtain ⟨rfl, rfl⟩ := h
                  obtain rfl : new = [] := List.eq_nil_of_length_eq_zero (by omega)
                  exact ap_none (.inl rfl) fun ρ su hsu => by
                    simp only [VR] at hsu
                    exact ⟨_, _, _, hsu, Nat.le_refl _⟩
                · rename_i m
                  obtain ⟨h1, rfl, rfl⟩ := apNew_ok h
                  have h1 := Nat.le_of_ble_eq_true h1
                  have := ap_move (X := X) (tx := tx) (e := e) (z := z) (n := m + 1) (len := 0) (s := .ns) (new := new) (old := []) (S := S1) (S0 := S1) ⟨rfl, rfl, rfl, .refl _⟩ hz hnew (by simp) (by omega) (fun F ρ w su _ _ hsu => by
                    simp only [VR] at hsu
                    exact ⟨none, 0, [], hsu, by omega, vrs_nil.2 rfl, fun w' _ => by rw [hsu]; rfl⟩)
                  simpa using this
              · rename_i c
                cases n with
                | zero =>
                  simp only [Option.some.injEq, Prod.mk.injEq] at h
                  obtain ⟨rfl, rfl⟩ := h
                  obtain rfl : new = [] := List.eq_nil_of_length_eq_zero (by omega)
                  exact ap_none (.inl rfl) fun ρ su hsu => by
                    simp only [VR] at hsu
                    obtain ⟨a, k, _, hsu⟩ := hsu
                    exact ⟨_, _, _, hsu, Nat.zero_le _⟩
                | succ m =>
                  simp only at h
                  split at h
                  · obtain ⟨h1, rfl, rfl⟩ := apNew_ok h
                    have h1 := Nat.le_of_ble_eq_true h1
                    have := ap_move (X := X) (tx := tx) (e := e) (z := z) (n := m + 1) (len := 0) (s := .sz (some 0)) (new := new) (old := []) (S := S1) (S0 := S1) ⟨rfl, rfl, rfl, .refl _⟩ hz hnew (by simp) (by omega) (fun F ρ w su _ _ hsu => by
                      simp only [VR] at hsu
                      obtain ⟨a, k, hk, hsu⟩ := hsu
                      have := hk 0 rfl
                      subst this
                      exact ⟨some a, 0, [], hsu, by omega, vrs_nil.2 rfl, fun w' _ => by rw [hsu]; simp [Builtin.firstCells, loadCells, loadCellsFrom]⟩)
                    simpa using this
                  · cases h
              · rename_i b o len cap
                split at h
                · rename_i hc
                  simp only [Bool.and_eq_true] at hc
                  have hc1 := Nat.le_of_ble_eq_true hc.1
                  have hc2 := Nat.le_of_ble_eq_true hc.2
                  split at h
                  · rename_i old hold
                    exact apSl_ok hz hz0 hnew hone hc2 hc1 hold h
                  · cases h
                · cases h
              · cases h
            intro hok
            have hH : S1.H = S.H := by rcases hS1 with rfl | ⟨b, c, rfl, _⟩ <;> rfl
            have hcc : S1.c = S.c := by rcases hS1 with rfl | ⟨b, c, rfl, _⟩ <;> rfl
            have hext : Ext S S1 := by
              rcases hS1 with rfl | ⟨b, c, rfl, _⟩
              · exact .refl _
              · exact ext_saw _ _
            have hok1 : OkE S1 := fun b x hx => by rw [hH] at hx; rw [hcc]; exact hok b x hx
            obtain ⟨h1, h2, h3⟩ := hap hok1
            refine ⟨h1, hext.trans h2, fun F ρ w q hw hf hm hq => ?_⟩
            obtain ⟨su, u, rt, hsu, hu, rfl⟩ := hq
            obtain ⟨us, g1, g2⟩ := hsrc F ρ w u (fun b c hb' hg => by
              refine hw b (hok b c hg) (.inl (h2.r b ?_))
              rw [hb']
              show (Nat.lor S.r (Nat.shiftLeft 1 b)).testBit b = true
              rw [bit_lor]
              simp) hm hu
            have := h3 F ρ w us u su ts rt (fun b hb' hbit => hw b (by omega) hbit) (by rw [hcc]; exact hf) (by rw [hH]; exact hm) g1 g2 hsu hts
            rw [hcc] at this
            exact this
  · cases h
end
end Go.Proofs.YtndpcphmndfajaaGreatDoor
