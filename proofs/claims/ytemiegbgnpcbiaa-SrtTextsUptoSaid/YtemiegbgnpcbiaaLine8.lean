/- The walk of the statement LinePieces; pieces that come in. -/
import Derived.Test.YtemiegbgnpcbiaaLine6
import Derived.Deep.Slices
import Derived.Deep.Fields
import Derived.ChangeSame
namespace Go.Proofs.Ytemiegbgnpcbiaa
open Go.RowKit
open Go.ChangeShapes Go.WideShapes Go.Deep
set_option linter.unusedVariables false
section
variable {H : Type} {enc : TypeId × Value → H} {P : Program} {w : World} {base : Nat} {spare : Nat → Bool} {held : Bool}
theorem open_slice_fields {t e : TypeId} {fs : Array Field} {fuel : Nat} {cs : List Value} {x : DataW H × List MemPlace} (ht : P.underlying t = some (.slice e)) (he : P.underlying e = some (.struct fs))
    (hone : oneCellFields P fs = true) (hC : P.cellsOf e = fs.size) (h : DataW.trod enc P w base spare held fuel t cs = some x) :
    (cs = [.slice none 0 0] ∧ x = (.nil, [])) ∨
    ∃ (a : Addr) (len cap m : Nat) (D : Nat → DataW H) (Pl : Nat → List MemPlace), cs = [.slice (some a) len cap] ∧ base ≤ a.block ∧ len ≤ cap ∧ cap ≤ maxLen ∧ m = (if spare a.block then cap else len) ∧
      x = (.slice ((List.range len).map D) ((List.range (m - len)).map fun j => D (len + j)), MemPlace.row a (m * fs.size) ++ (List.range m).flatMap Pl) ∧
      ∀ i, i < m → ∃ (ys : List (DataW H × List MemPlace)) (n : Nat), D i = .agg (ys.map (·.1)) ∧ Pl i = ys.flatMap (·.2) ∧ ys.length = fs.size ∧
        ∀ (j : Nat) (f : Field), fs[j]? = some f → ∃ (v : Value) (y : DataW H × List MemPlace), w.cell? (a.add (i * fs.size + j)) = some v ∧ ys[j]? = some y ∧ DataW.trod enc P w base spare held n f.type [v] = some y := by
  rcases open_slice ht h with h0 | ⟨a, len, cap, m, n, D, Pl, hcs, hb, hl, hm, hmm, hx, hi⟩
  · exact .inl h0
  · refine .inr ⟨a, len, cap, m, D, Pl, hcs, hb, hl, hm, hmm, by rw [hC] at hx; exact hx, fun i him => ?_⟩
    obtain ⟨cs', hc, ht'⟩ := hi i him
    rw [hC] at hc
    obtain ⟨ys, n', hn', hy, hlen, hyl, hf⟩ := DataW.trod_struct he ht'
    obtain ⟨_, hcl, hat⟩ := World.cells?_some hc
    simp only [Prod.mk.injEq] at hy
    refine ⟨ys, n', hy.1, hy.2, hyl, fun j f hj => ?_⟩
    obtain ⟨ho, hk⟩ := hone_of hone j f hj
    have hjl : j < fs.size := (Array.getElem?_eq_some_iff.1 hj).1
    have hcell := hat j hjl
    have hv : cs'[j]? = some (cs'[j]'(by omega)) := List.getElem?_eq_getElem (by omega)
    have h1 := hf j f hj
    rw [ho, hk] at h1
    have hone' : (cs'.drop j).take 1 = [cs'[j]'(by omega)] := by
      rw [List.drop_eq_getElem_cons (by omega)]
      rfl
    rw [hone'] at h1
    have hys : ys[j]? = some (ys[j]'(by omega)) := List.getElem?_eq_getElem (by omega)
    refine ⟨_, _, ?_, hys, h1.trans hys⟩
    rw [← Go.Deep.add_add, hcell, hv]
end

theorem open_pcs {H : Type} {enc : TypeId × Value → H} {w : World} {base : Nat} {spare : Nat → Bool} {held : Bool} {v : Value} {d : DataW H} {p : List MemPlace} {r : Reach} {b0 : Nat}
    (hv : Value.okWide Try.prog w r b0 31 v) (h : DataW.Trod enc Try.prog w base spare held 31 v d p) :
    ∃ (a : Option Addr) (n cap : Nat) (L : List Pc), v = .slice a n cap ∧ PcsAt w a n L ∧ n ≤ cap ∧ n ≤ maxLen := by
  obtain ⟨sa, sl, sc, rfl⟩ := okWide_slice Try.underlying31 hv
  obtain ⟨fuel, hf⟩ := h
  have hlt := DataW.trod_lt _ _ _ _ hf
  rcases open_slice_fields Try.underlying31 Try.underlying34 (by kernel_rfl) (by kernel_rfl) hf with ⟨hc, hx⟩ | ⟨a, len, cap, m, D, Pl, hc, hb, hl, hcap, hm, hx, hi⟩
  · obtain ⟨rfl, rfl, rfl⟩ : sa = none ∧ sl = 0 ∧ sc = 0 := by simpa [Value.cells] using hc
    exact ⟨none, 0, 0, [], rfl, ⟨rfl, by simp, .inl rfl⟩, Nat.le_refl _, by decide⟩
  · obtain ⟨rfl, rfl, rfl⟩ : sa = some a ∧ sl = len ∧ sc = cap := by simpa [Value.cells] using hc
    have hlm : sl ≤ m := by rw [hm]; split <;> omega
    by_cases h0 : sl = 0
    · subst h0
      exact ⟨some a, 0, sc, [], rfl, ⟨rfl, by simp, .inl rfl⟩, hl, by omega⟩
    have hz : a.block < w.heap.size := by
      refine hlt (.cell a.block (a.off + 0)) ?_
      rw [hx]
      exact List.mem_append_left _ (MemPlace.mem_row.2 ⟨0, by simp; omega, rfl⟩)
    obtain ⟨b, off, spot⟩ := a
    have hspot : spot = none := by
      obtain ⟨ys, n, _, _, _, hf⟩ := hi 0 (by omega)
      obtain ⟨v0, y0, c0, _, t0⟩ := hf 0 _ rfl
      simpa [Addr.add] using World.cell?_spot c0
    subst hspot
    have key : ∀ i, i < sl → ∃ o : Pc, w.cell? ⟨b, off + (i * 3 + 0), none⟩ = some (.bool o.m) ∧ w.cell? ⟨b, off + (i * 3 + 1), none⟩ = some (.string ⟨o.n.toArray⟩) ∧ w.cell? ⟨b, off + (i * 3 + 2), none⟩ = some (.string ⟨o.t.toArray⟩) := by
      intro i hil
      obtain ⟨ys, n, _, _, _, hf⟩ := hi i (by omega)
      obtain ⟨v0, y0, c0, _, t0⟩ := hf 0 _ rfl
      obtain ⟨v1, y1, c1, _, t1⟩ := hf 1 _ rfl
      obtain ⟨v2, y2, c2, _, t2⟩ := hf 2 _ rfl
      obtain ⟨n0, e0, _⟩ := DataW.trod_bool Try.underlying4 t0
      obtain ⟨s1, e1, _, _⟩ := DataW.trod_string Try.underlying9 t1
      obtain ⟨s2, e2, _, _⟩ := DataW.trod_string Try.underlying9 t2
      obtain ⟨l1, rfl⟩ := bytes_eta s1
      obtain ⟨l2, rfl⟩ := bytes_eta s2
      simp only [List.cons.injEq, and_true] at e0 e1 e2
      subst e0 e1 e2
      rw [add_plain] at c0 c1 c2
      exact ⟨⟨n0, l1, l2⟩, c0, c1, c2⟩
    refine ⟨some ⟨b, off, none⟩, sl, sc, (List.range sl).attach.map fun i => Classical.choose (key i.1 (List.mem_range.1 i.2)), rfl, ⟨by simp, ?_, .inr ⟨b, off, rfl, hz, ?_⟩⟩, hl, by omega⟩
    · intro r hr
      simp only [List.mem_map] at hr
      obtain ⟨q, _, rfl⟩ := hr
      rfl
    · intro i h j hj
      have hil : i < sl := by simpa using h
      have e : (((List.range sl).attach.map fun i => Classical.choose (key i.1 (List.mem_range.1 i.2))).map pcR)[i] = pcR (Classical.choose (key i hil)) := by simp
      have k := Classical.choose_spec (key i hil)
      rw [e]
      match j, hj with
      | 0, _ => exact k.1
      | 1, _ => exact k.2.1
      | 2, _ => exact k.2.2

set_option maxRecDepth 100000 in
theorem pieces_over (a1 : Option Addr) (n1 cap1 : Nat) (a2 : Option Addr) (n2 cap2 : Nat) (w : World) (h : (50 : Int) < n1 ∨ (50 : Int) < n2) :
    Calls Try.prog 4 #[.slice a1 n1 cap1, .slice a2 n2 cap2] w fun e w' => e = .returned (.bool true) ∧ Below w.heap.size w w' := by
  by_cases h1 : (50 : Int) < n1
  · go_enter Try.func4, Try.ntmps4
    go_wp2_with (go_at_call 10; refine (awake22' _).mono ?_; rintro e w1 ⟨rfl, hb1⟩)
    go_ret
    exact ⟨rfl, hb1⟩
  · have h2 : (50 : Int) < n2 := by omega
    go_enter Try.func4, Try.ntmps4
    go_wp2_with (go_at_call 10; refine (awake22' _).mono ?_; rintro e w1 ⟨rfl, hb1⟩)
    go_ret
    exact ⟨rfl, hb1⟩

theorem pcs_take (L : List Pc) (k : Nat) (h : k < L.length) : ((L.take (k + 1)).map (·.t)).flatten = ((L.take k).map (·.t)).flatten ++ L[k].t := by
  rw [List.take_succ_eq_append_getElem h, List.map_append, List.flatten_append]
  simp [-List.flatten_append, -List.map_take]
theorem pcs_len (L : List Pc) (k : Nat) (h : ∀ p ∈ L.take k, p.t.length ≤ 200) : ((L.take k).map (·.t)).flatten.length ≤ 200 * k := by
  have := flat_len ((L.take k).map (·.t)) 200 (by intro q hq; obtain ⟨p, hp, rfl⟩ := List.mem_map.1 hq; exact h p hp)
  rw [List.length_map, List.length_take] at this
  have h2 : 200 * min k L.length ≤ 200 * k := Nat.mul_le_mul_left _ (Nat.min_le_left _ _)
  omega

set_option maxHeartbeats 4000000 in
set_option maxRecDepth 100000 in
theorem pieces_in (a1 : Option Addr) (n1 cap1 : Nat) (L : List Pc) (a2 : Option Addr) (n2 cap2 : Nat) (ps : List (List UInt8)) (w : World) (h1 : Hid (PcsAt w a1 n1 L)) (h2 : Hid (StrsAt w a2 n2 ps))
    (hn1 : n1 ≤ 50) (hn2 : n2 ≤ 50) (hc1 : n1 ≤ cap1) (hc2 : n2 ≤ cap2) :
    Calls Try.prog 4 #[.slice a1 n1 cap1, .slice a2 n2 cap2] w fun e w' => e = .returned (.bool true) ∧ Below w.heap.size w w' := by
  have hl1 := h1.out.len
  have hl2 := h2.out.1
  go_enter Try.func4, Try.ntmps4
  go_wp2
  go_loopw [5, 22] (fun z i wr => ∃ (k : Nat), k ≤ n1 ∧ i = .int .i64 k ∧ z = .string ⟨((L.take k).map (·.t)).flatten.toArray⟩ ∧ Hid (∀ p ∈ L.take k, p.t.length ≤ 200) ∧ Hid (Below w.heap.size w wr)) (fun _ i _ => n1 - (intOf i).toNat)
  case atStart => exact ⟨0, by omega, rfl, rfl, Lib.hid (by simp), Lib.hid (Below.refl _ _)⟩
  case round =>
    obtain ⟨k, hk, rfl, rfl, HP, HB⟩ := hrel
    have hfl := pcs_len L k HP.out
    by_cases hlt : k < n1
    · have h0 : (k : Int) < n1 := by omega
      have hkl : k < L.length := by omega
      obtain ⟨b, off, rfl, hb, hc⟩ := h1.out.at (by omega)
      obtain ⟨c0, c1, c2⟩ := hc k hkl
      rw [← HB.out.cell (by exact hb)] at c0 c1 c2
      have HT := Lib.hid (pcs_take L k hkl)
      have HMT := Lib.hid (List.take_succ_eq_append_getElem hkl)
      clear hc
      generalize ((L.take k).map (·.t)).flatten = u at *
      by_cases hbig : (200 : Int) < L[k].t.length
      · go_wp2_with (go_at_call 10; refine (awake22' _).mono ?_; rintro e w1 ⟨rfl, hb1⟩)
        go_ret
        exact ⟨rfl, nextB (HB.out.alloc HB.out.size _) hb1⟩
      · go_wp2
        refine ⟨⟨k + 1, by omega, by simp, by rw [HT.out], Lib.hid ?_, Lib.hid (HB.out.alloc HB.out.size _)⟩, by simp [intOf]; omega⟩
        rw [HMT.out]
        intro p hp
        rcases List.mem_append.1 hp with hp | hp
        · exact HP.out p hp
        · obtain rfl : p = L[k] := by simpa using hp
          omega
    · have h0 : ¬ (k : Int) < n1 := by omega
      have e0 : L.take k = L := List.take_of_length_le (by omega)
      rw [e0] at HP hfl ⊢
      go_wp2
      generalize hw0 : wr = wr0
      go_loopw [8, 38] (fun z i wr1 => ∃ (k : Nat), k ≤ n2 ∧ i = .int .i64 k ∧ z = .string ⟨(ps.take k).flatten.toArray⟩ ∧ Hid (∀ p ∈ ps.take k, p.length ≤ 200) ∧ wr1 = wr0) (fun _ i _ => n2 - (intOf i).toNat)
      case atStart => exact ⟨0, by omega, rfl, rfl, Lib.hid (by simp), rfl⟩
      case round =>
        obtain ⟨j, hj, rfl, rfl, HQ, rfl⟩ := hrel
        subst hw0
        have hfq := flat_len _ _ HQ.out
        rw [List.length_take] at hfq
        by_cases hlt2 : j < n2
        · have h5 : (j : Int) < n2 := by omega
          have hjl : j < ps.length := by omega
          rcases h2.out.2 with h | ⟨b, off, rfl, hb, hc⟩
          · omega
          have c0 := hc j hjl
          rw [← HB.out.cell (by exact hb)] at c0
          have HT := Lib.hid (flat_take ps j hjl)
          have HMT := Lib.hid (List.take_succ_eq_append_getElem hjl)
          clear hc
          generalize (ps.take j).flatten = u at *
          generalize ps[j] = p0 at *
          by_cases hbig : (200 : Int) < p0.length
          · go_wp2_with (go_at_call 10; refine (awake22' _).mono ?_; rintro e w1 ⟨rfl, hb1⟩)
            go_ret
            exact ⟨rfl, nextB HB.out hb1⟩
          · go_wp2
            refine ⟨⟨j + 1, by omega, by simp, by rw [HT.out], Lib.hid ?_, trivial⟩, by simp [intOf]; omega⟩
            rw [HMT.out]
            intro p hp
            rcases List.mem_append.1 hp with hp | hp
            · exact HQ.out p hp
            · obtain rfl : p = p0 := by simpa using hp
              omega
        · have h5 : ¬ (j : Int) < n2 := by omega
          have e5 : ps.take j = ps := List.take_of_length_le (by omega)
          rw [e5] at HQ hfq ⊢
          have C1 := Lib.hid (fun w' (h : Below w.heap.size w w') => whole_any a1 n1 cap1 L w' (RecsAt.below h1.out h) (by omega) hc1 (by omega))
          have C2 := Lib.hid (fun w' (h : Below w.heap.size w w') => mark_any a2 n2 cap2 ps w' (StrsAt.below h2.out h) hc2 (by omega) (by omega))
          unfold pcV markL at C2
          have C3 := Lib.hid (fun (n t : List UInt8) (w' : World) => text_any n t w')
          unfold pcV at C3
          generalize (L.map (·.t)).flatten = u at *
          generalize ps.flatten = t at *
          go_wp2_with (first | (go_at_call 10; refine (awake22' _).mono ?_; rintro e w1 ⟨rfl, hb1⟩; have HB1 := Lib.hid (nextB HB.out hb1); clear hb1) | (go_at_call 13; refine (C1.out _ HB1.out).mono ?_; rintro e w2 ⟨rfl, hb2⟩; have HB2 := Lib.hid (nextB HB1.out hb2); clear hb2) | (go_at_call 14; refine (C2.out _ HB2.out).mono ?_; rintro e w3 ⟨rfl, hb3⟩; have HB3 := Lib.hid (nextB HB2.out hb3); clear hb3) | (go_at_call 15; refine (C3.out _ _ _).mono ?_; rintro e w4 ⟨rfl, hb4⟩; have HB4 := Lib.hid (nextB HB3.out hb4); clear hb4))
          go_ret
          exact ⟨rfl, HB4.out⟩

theorem walk_LinePieces (w : World) (v1 : Value) (hv1 : ∃ (a : Option Addr) (n cap : Nat) (L : List Pc), v1 = .slice a n cap ∧ PcsAt w a n L ∧ n ≤ cap ∧ n ≤ maxLen)
    (v2 : Value) (hv2 : ∃ (a : Option Addr) (n cap : Nat) (ps : List (List UInt8)), v2 = .slice a n cap ∧ StrsAt w a n ps ∧ n ≤ cap ∧ n ≤ maxLen ∧ ∀ p ∈ ps, p.length ≤ maxLen) :
    Calls Try.prog 4 #[v1, v2] w fun e w' => e = .returned (.bool true) ∧ Below w.heap.size w w' := by
  obtain ⟨a1, n1, cap1, L, rfl, h1, hc1, _⟩ := hv1
  obtain ⟨a2, n2, cap2, ps, rfl, h2, hc2, _, _⟩ := hv2
  by_cases h : (50 : Int) < n1 ∨ (50 : Int) < n2
  · exact pieces_over a1 n1 cap1 a2 n2 cap2 w h
  · exact pieces_in a1 n1 cap1 L a2 n2 cap2 ps w (Lib.hid h1) (Lib.hid h2) (by omega) (by omega) hc1 hc2
end Go.Proofs.Ytemiegbgnpcbiaa
