/- The walks of layer 22 (line): Whole, Mark, Text. -/
import Derived.Test.YtemiegbgnpcbiaaLine4
namespace Go.Proofs.Ytemiegbgnpcbiaa
open Go.RowKit
set_option linter.unusedVariables false

structure Pc where
  m : Bool
  n : List UInt8
  t : List UInt8
def pcR (p : Pc) : List Value := [.bool p.m, .string ⟨p.n.toArray⟩, .string ⟨p.t.toArray⟩]
def pcV (p : Pc) : Value := .agg #[.bool p.m, .string ⟨p.n.toArray⟩, .string ⟨p.t.toArray⟩]
def markL (t : List UInt8) : Pc := ⟨true, [109, 97, 114, 107], t⟩

set_option maxRecDepth 100000 in
theorem mark_any (a : Option Addr) (n cap : Nat) (ps : List (List UInt8)) (w : World) (h : StrsAt w a n ps) (hcap : n ≤ cap) (hn : n ≤ 1000000000) (hs : ps.flatten.length ≤ 1000000000) :
    Calls Try.prog 14 #[.slice a n cap] w fun e w' => e = .returned (pcV (markL ps.flatten)) ∧ Below w.heap.size w w' := by
  have h2 := fun o => octJoin_any a n cap ps (w.alloc o) (h.below ((Below.refl _ _).alloc (Nat.le_refl _) o)) hcap hn hs
  have H := Lib.hid h2
  clear h h2
  go_enter Try.func14, Try.ntmps14
  go_wp2_with (go_at_call 32; refine (H.out _).mono ?_; rintro e w1 ⟨rfl, hb1⟩; have hh := block_below (at_a0 w _ _) hb1; have c0 := cell_at (j := 0) hh; have c1 := cell_at (j := 1) hh; have c2 := cell_at (j := 2) hh; have f0 := free_at (j := 0) hh; have f1 := free_at (j := 1) hh; have f2 := free_at (j := 2) hh)
  exact end_cell rfl rfl rfl (store3 hh rfl) Try.underlying34 rfl (by kernel_rfl) ⟨rfl, (((below_a1 hb1).setCell (Nat.le_refl _) _).setCell (Nat.le_refl _) _).setCell (Nat.le_refl _) _⟩
set_option maxRecDepth 100000 in
theorem text_any (n t : List UInt8) (w : World) :
    Calls Try.prog 15 #[.string ⟨n.toArray⟩, .string ⟨t.toArray⟩] w fun e w' => e = .returned (pcV ⟨false, n, t⟩) ∧ Below w.heap.size w w' := by
  go_enter Try.func15, Try.ntmps15
  go_wp2
  exact end_cell rfl rfl rfl (at_a0 _ _ _) Try.underlying34 rfl (by kernel_rfl) ⟨rfl, (Below.refl _ _).alloc (Nat.le_refl _) _⟩

def strC (ps : List (List UInt8)) : List Value := ps.map fun p => .string ⟨p.toArray⟩
/-- a slice of n texts that the call itself made, of which the first are written -/
def Made (w : World) (base g n : Nat) (ps : List (List UInt8)) : Prop := ps.length ≤ n ∧ w.ownsRow base 9 1 (.slice (some ⟨g, 0, none⟩) n n) n (strC (ps ++ List.replicate (n - ps.length) []))
theorem Made.cell {w : World} {base g n : Nat} {ps : List (List UInt8)} (h : Made w base g n ps) (hk : ps.length < n) : (∃ u, w.cell? ⟨g, ps.length, none⟩ = some u) ∧ w.frozen? ⟨g, ps.length, none⟩ = false := by
  refine ⟨?_, World.ownsRow.frozenAt h.2 _⟩
  rw [World.ownsRow.cellAt h.2 _ (by omega)]
  refine ⟨_, List.getElem?_eq_getElem (by simp [strC]; omega)⟩
theorem Made.step {w : World} {base g n : Nat} {ps : List (List UInt8)} (h : Made w base g n ps) (hk : ps.length < n) (p : List UInt8) : Made (w.setCell ⟨g, ps.length, none⟩ (.string ⟨p.toArray⟩)) base g n (ps ++ [p]) := by
  refine ⟨by simp; omega, ?_⟩
  have h1 := (World.ownsRow.stored h.2 ps.length (.string ⟨p.toArray⟩)).1
  have e : (strC (ps ++ List.replicate (n - ps.length) [])).set ps.length (.string ⟨p.toArray⟩) = strC (ps ++ [p] ++ List.replicate (n - (ps ++ [p]).length) []) := by
    have e2 : n - ps.length = (n - (ps ++ [p]).length) + 1 := by simp; omega
    rw [e2, List.replicate_succ]
    simp [strC]
  rw [e] at h1
  exact h1
theorem Made.done {w : World} {base g n : Nat} {ps : List (List UInt8)} (h : Made w base g n ps) (hk : ps.length = n) (hg : g < w.heap.size) : StrsAt w (some ⟨g, 0, none⟩) n ps := by
  refine ⟨hk, .inr ⟨g, 0, rfl, hg, fun i hi => ?_⟩⟩
  have e : n - ps.length = 0 := by omega
  have h2 := h.2
  rw [e, List.replicate_zero, List.append_nil] at h2
  rw [Nat.zero_add, World.ownsRow.cellAt h2 _ (by omega)]
  simp [strC, hi]
theorem Made.kept {w : World} {base g n : Nat} {ps : List (List UInt8)} (h : Made w base g n ps) (o : Obj) : Made (w.alloc o) base g n ps := ⟨h.1, World.ownsRow.alloc h.2 o⟩
theorem Made.lt {w : World} {base g n : Nat} {ps : List (List UInt8)} (h : Made w base g n ps) : base ≤ g ∧ g < w.heap.size := World.ownsRow.lt h.2 g rfl
theorem info_str' : (Try.prog.info? 9).map (fun i => (i.zero, i.size, i.bytes)) = some (some (.string ⟨#[]⟩), 1, 16) := by kernel_rfl

/-- pieces in cells -/
def PcsAt (w : World) (a : Option Addr) (n : Nat) (L : List Pc) : Prop := RecsAt w a n 3 (L.map pcR)
theorem PcsAt.len {w : World} {a : Option Addr} {n : Nat} {L : List Pc} (h : PcsAt w a n L) : L.length = n := by have := h.1; simpa using this
theorem PcsAt.at {w : World} {a : Option Addr} {n : Nat} {L : List Pc} (h : PcsAt w a n L) (hn : n ≠ 0) : ∃ b off, a = some ⟨b, off, none⟩ ∧ b < w.heap.size ∧ ∀ i (h : i < L.length), w.cell? ⟨b, off + i * 3, none⟩ = some (.bool L[i].m) ∧ w.cell? ⟨b, off + i * 3 + 1, none⟩ = some (.string ⟨L[i].n.toArray⟩) ∧ w.cell? ⟨b, off + i * 3 + 2, none⟩ = some (.string ⟨L[i].t.toArray⟩) := by
  rcases h.2.2 with h0 | ⟨b, off, ha, hb, hc⟩
  · exact absurd h0 hn
  · refine ⟨b, off, ha, hb, fun i hi => ?_⟩
    have hi' : i < (L.map pcR).length := by simpa using hi
    have e : (L.map pcR)[i] = pcR L[i] := by simp
    have k0 := hc i hi' 0 (by decide)
    have k1 := hc i hi' 1 (by decide)
    have k2 := hc i hi' 2 (by decide)
    rw [e] at k0 k1 k2
    exact ⟨k0, k1, k2⟩

set_option maxHeartbeats 2000000 in
set_option maxRecDepth 100000 in
theorem whole_in (b off n cap : Nat) (L : List Pc) (w : World) (hb : b < w.heap.size) (hl : L.length = n) (hn9 : n ≤ 1000000) (hcap : n ≤ cap) (hs : (L.map (·.t)).flatten.length ≤ 1000000000)
    (hc : Hid (∀ i (h : i < L.length), w.cell? ⟨b, off + i * 3, none⟩ = some (.bool L[i].m) ∧ w.cell? ⟨b, off + i * 3 + 1, none⟩ = some (.string ⟨L[i].n.toArray⟩) ∧ w.cell? ⟨b, off + i * 3 + 2, none⟩ = some (.string ⟨L[i].t.toArray⟩))) :
    Calls Try.prog 13 #[.slice (some ⟨b, off, none⟩) n cap] w fun e w' => e = .returned (.string ⟨(L.map (·.t)).flatten.toArray⟩) ∧ Below w.heap.size w w' := by
  obtain ⟨i0, hi, hz0, hz1, hz2⟩ := info_parts info_str'
  go_enter Try.func13, Try.ntmps13
  go_wp2_with (at_make; refine wpList_make_full _ rfl _ _ 32 rfl w.heap.size 9 i0 (.string ⟨#[]⟩) 1 Try.underlying32 hi hz0 hz1 _ _ _ _ n rfl rfl rfl rfl (by rw [hz2]; omega) (by unfold maxLen; omega) (Nat.le_refl _) ?_)
  intro w1 hown hgrow
  have hmade : Made w1 w.heap.size w.heap.size n [] := by
    refine ⟨Nat.zero_le _, ?_⟩
    have e : strC ([] ++ List.replicate (n - ([] : List (List UInt8)).length) []) = (madeCells #[Value.string ⟨#[]⟩] n).toList :=
      ((toList_madeCells_one (.string ⟨#[]⟩) n).trans (by simp [strC])).symm
    rw [e]
    exact hown
  have hbel : Below w.heap.size w w1 := (Below.refl _ _).grown hgrow (Nat.le_refl _) (by intro k hk; cases hk)
  have HMD := Lib.hid hmade
  have HBL := Lib.hid hbel
  clear hown hgrow hmade hbel
  go_wp2
  go_loopw [11] (fun i wr => ∃ (k : Nat), k ≤ n ∧ i = .int .i64 k ∧ Hid (Made wr w.heap.size w.heap.size n ((L.take k).map (·.t))) ∧ Hid (Below w.heap.size w wr)) (fun i _ => n - (intOf i).toNat)
  case atStart => exact ⟨0, by omega, rfl, HMD, HBL⟩
  case round =>
    obtain ⟨k, hk, rfl, HM, HB⟩ := hrel
    by_cases hlt : k < n
    · have h0 : (k : Int) < n := by omega
      have hkl : k < L.length := by omega
      obtain ⟨c0, c1, c2⟩ := hc.out k hkl
      rw [← HB.out.cell (by exact hb)] at c0 c1 c2
      have hlen : ((L.take k).map (·.t)).length = k := by simp; omega
      have hmo := HM.out.cell (by rw [hlen]; exact hlt)
      have hms := HM.out.step (by rw [hlen]; exact hlt) L[k].t
      rw [hlen] at hmo hms
      have HMS := Lib.hid hms
      have hme : (L.take (k + 1)).map (·.t) = (L.take k).map (·.t) ++ [L[k].t] := by rw [List.take_succ_eq_append_getElem hkl, List.map_append]; rfl
      have HME := Lib.hid hme
      obtain ⟨⟨u, hu⟩, hf⟩ := hmo
      have hgl := HM.out.lt.2
      clear hms hme hlen
      go_wp2
      refine ⟨⟨k + 1, by omega, by simp, ?_, Lib.hid ?_⟩, by simp [intOf]; omega⟩
      · rw [HME.out]; exact HMS.out.kept _
      · exact (HB.out.setCell (Nat.le_refl _) _).alloc (by simpa using HB.out.size) _
    · have h0 : ¬ (k : Int) < n := by omega
      have e0 : L.take k = L := List.take_of_length_le (by omega)
      rw [e0] at HM
      have hS := HM.out.done (by simpa using hl) HM.out.lt.2
      have C1 := Lib.hid (octJoin_any (some ⟨w.heap.size, 0, none⟩) n n _ wr hS (Nat.le_refl _) (by omega) hs)
      clear hS
      go_wp2_with (go_at_call 32; refine C1.out.mono ?_; rintro e w2 ⟨rfl, hb2⟩)
      go_ret
      exact ⟨rfl, nextB HB.out hb2⟩

set_option maxHeartbeats 1000000 in
set_option maxRecDepth 100000 in
theorem whole_none (a : Option Addr) (cap : Nat) (w : World) :
    Calls Try.prog 13 #[.slice a 0 cap] w fun e w' => e = .returned (.string ⟨#[]⟩) ∧ Below w.heap.size w w' := by
  obtain ⟨i0, hi, hz0, hz1, hz2⟩ := info_parts info_str'
  go_enter Try.func13, Try.ntmps13
  go_wp2_with (at_make; refine wpList_make_full _ rfl _ _ 32 rfl w.heap.size 9 i0 (.string ⟨#[]⟩) 1 Try.underlying32 hi hz0 hz1 _ _ _ _ 0 rfl rfl rfl rfl (by rw [hz2]; omega) (by unfold maxLen; omega) (Nat.le_refl _) ?_)
  intro w1 hown hgrow
  have hbel : Below w.heap.size w w1 := (Below.refl _ _).grown hgrow (Nat.le_refl _) (by intro k hk; cases hk)
  have HBL := Lib.hid hbel
  clear hown hgrow hbel
  go_wp2
  refine wp_loop_rounds 1 ?_
  rw [rounds_succ]
  have C1 := Lib.hid (fun w a c => octJoin_any a 0 c [] w ⟨rfl, .inl rfl⟩ (Nat.zero_le _) (by decide) (by decide))
  go_wp2_with (go_at_call 32; refine (C1.out _ _ _).mono ?_; rintro e w2 ⟨rfl, hb2⟩)
  go_ret
  exact ⟨rfl, nextB HBL.out hb2⟩

theorem whole_any (a : Option Addr) (n cap : Nat) (L : List Pc) (w : World) (h : PcsAt w a n L) (hn9 : n ≤ 1000000) (hcap : n ≤ cap) (hs : (L.map (·.t)).flatten.length ≤ 1000000000) :
    Calls Try.prog 13 #[.slice a n cap] w fun e w' => e = .returned (.string ⟨(L.map (·.t)).flatten.toArray⟩) ∧ Below w.heap.size w w' := by
  by_cases hn : n = 0
  · subst hn
    obtain rfl : L = [] := List.eq_nil_of_length_eq_zero h.len
    exact whole_none a cap w
  · obtain ⟨b, off, rfl, hb, hc⟩ := h.at hn
    exact whole_in b off n cap L w hb h.len hn9 hcap hs (Lib.hid hc)

/-- the lines of the example, in cells -/
theorem ex_lines : linesOf [97, 13, 10, 10, 98] 0 = [⟨[97], [13, 10], 0⟩, ⟨[], [10], 3⟩, ⟨[98], [], 4⟩] := by kernel_rfl
end Go.Proofs.Ytemiegbgnpcbiaa
