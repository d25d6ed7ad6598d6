/- Layer 17 (page): files that are pages, one behind the other (plain); slices of pages that come in. -/
import Derived.Test.YtmnmonmbdgedbaaPage11
namespace Go.Proofs.Ytmnmonmbdgedbaa
open Go.RowKit Go.ChangeShapes Go.WideShapes Go.Deep
set_option linter.unusedVariables false

def fileL (ps : List Pg) : List UInt8 := (ps.map printL).flatten
theorem fileL_cons (p : Pg) (ps : List Pg) : fileL (p :: ps) = printL p ++ fileL ps := rfl
theorem fileL_snoc (ps : List Pg) (p : Pg) : fileL (ps ++ [p]) = fileL ps ++ printL p := by simp [fileL]
def placesI : Int → List Pg → List Int
  | _, [] => []
  | o, p :: ps => o :: placesI (o + (printL p).length) ps
theorem placesI_len : ∀ (ps : List Pg) (o : Int), (placesI o ps).length = ps.length
  | [], _ => rfl
  | p :: ps, o => by simp [placesI, placesI_len ps]
theorem placesI_snoc : ∀ (ps : List Pg) (o : Int) (p : Pg), placesI o (ps ++ [p]) = placesI o ps ++ [o + (fileL ps).length]
  | [], o, p => by simp [placesI, fileL]
  | q :: ps, o, p => by
    rw [List.cons_append, placesI, placesI_snoc ps, placesI, fileL_cons, List.length_append]
    simp
    omega
def Fine (p : Pg) : Prop := p.Ok ∧ checkC p = 0
theorem pages_run : ∀ (ps : List Pg) (f : Nat) (m : Rd) (acc : List Pg) (pl : List Int), (∀ p ∈ ps, Fine p) → ps.length < f → Run m (fileL ps) →
    pagesS f m acc pl = (adv m (fileL ps).length, acc ++ ps, pl ++ placesI (m.bs + m.nx) ps)
  | [], f, m, acc, pl, _, hf, h => by
    obtain ⟨g, rfl⟩ : ∃ g, f = g + 1 := ⟨f - 1, by simp at hf; omega⟩
    rw [pagesS, parse_end m h]
    simp [fileL, placesI, adv]
  | p :: ps, f, m, acc, pl, hp, hf, h => by
    obtain ⟨g, rfl⟩ : ∃ g, f = g + 1 := ⟨f - 1, by simp at hf; omega⟩
    have h1 := hp p List.mem_cons_self
    rw [fileL_cons] at h
    rw [pagesS, parse_run m p _ h1.1 h1.2 h]
    simp only [if_true]
    rw [pages_run ps g (adv m (printL p).length) _ _ (fun q hq => hp q (List.mem_cons_of_mem _ hq)) (by simp at hf; omega) h.adv]
    rw [fileL_cons, adv_adv, List.length_append, placesI]
    simp [adv, Int.add_assoc]
theorem pages_cut : ∀ (ps : List Pg) (f n : Nat) (m : Rd) (acc : List Pg) (pl : List Int), (∀ p ∈ ps, Fine p) → n < f → n < (fileL ps).length → (m.bs + m.nx + n) ∉ placesI (m.bs + m.nx) ps → Run m ((fileL ps).take n) →
    (pagesS f m acc pl).1.cd = 1 ∧ (pagesS f m acc pl).1.pl = m.bs + m.t.length
  | [], f, n, m, acc, pl, _, hf, hn, _, h => by simp [fileL] at hn
  | p :: ps, f, n, m, acc, pl, hp, hf, hn, hnot, h => by
    obtain ⟨g, rfl⟩ : ∃ g, f = g + 1 := ⟨f - 1, by omega⟩
    have h1 := hp p List.mem_cons_self
    rw [placesI] at hnot
    have hn0 : 0 < n := by
      rcases Nat.eq_zero_or_pos n with rfl | h0
      · exfalso; apply hnot; simp
      · exact h0
    rw [fileL_cons] at h hn
    rw [List.length_append] at hn
    by_cases hlt : n < (printL p).length
    · rw [List.take_append_of_le_length (by omega)] at h
      obtain ⟨m', e, F⟩ := parse_cut m p ((printL p).take n) ((printL p).drop n) h1.1 h1.2 (List.take_append_drop _ _) (by rw [List.length_drop]; omega) (by rw [List.length_take]; omega) h
      rw [pagesS, e]
      exact ⟨F.1, F.2.1⟩
    · have e2 : (printL p ++ fileL ps).take n = printL p ++ (fileL ps).take (n - (printL p).length) := by
        rw [List.take_append, List.take_of_length_le (by omega)]
      rw [e2] at h
      rw [pagesS, parse_run m p _ h1.1 h1.2 h]
      simp only [if_true]
      have hk := pages_cut ps g (n - (printL p).length) (adv m (printL p).length) (acc ++ [p]) (pl ++ [m.bs + m.nx]) (fun q hq => hp q (List.mem_cons_of_mem _ hq)) (by have := print_len p; omega) (by omega) (by
        intro hin
        apply hnot
        refine List.mem_cons_of_mem _ ?_
        have e3 : (adv m (printL p).length).bs + ((adv m (printL p).length).nx : Int) = m.bs + m.nx + (printL p).length := by simp [adv, Int.add_assoc]
        rw [e3] at hin
        have e4 : m.bs + (m.nx : Int) + (printL p).length + ((n - (printL p).length : Nat) : Int) = m.bs + m.nx + n := by omega
        rwa [e4] at hin) h.adv
      exact hk
theorem pages_text (ps : List Pg) (h : ∀ p ∈ ps, Fine p) : pagesS ((fileL ps).length + 1) (Rd.new (fileL ps) 0) [] [] = (adv (Rd.new (fileL ps) 0) (fileL ps).length, ps, placesI 0 ps) := by
  have hl : ps.length ≤ (fileL ps).length := by
    clear h
    induction ps with
    | nil => simp
    | cons p ps ih =>
      rw [fileL_cons, List.length_append, print_len, List.length_cons]
      omega
  rw [pages_run ps _ (Rd.new (fileL ps) 0) [] [] h (by omega) (Run.new _ _)]
  simp [Rd.new]
theorem pages_part (ps : List Pg) (n : Nat) (h : ∀ p ∈ ps, Fine p) (hn : n < (fileL ps).length) (hnot : (n : Int) ∉ placesI 0 ps) :
    (pagesS (((fileL ps).take n).length + 1) (Rd.new ((fileL ps).take n) 0) [] []).1.cd = 1 ∧ (pagesS (((fileL ps).take n).length + 1) (Rd.new ((fileL ps).take n) 0) [] []).1.pl = n := by
  have hlen : ((fileL ps).take n).length = n := by rw [List.length_take]; omega
  have h1 := pages_cut ps (((fileL ps).take n).length + 1) n (Rd.new ((fileL ps).take n) 0) [] [] h (by omega) hn (by simpa [Rd.new] using hnot) (Run.new _ _)
  refine ⟨h1.1, ?_⟩
  rw [h1.2]
  simp [Rd.new]
  omega
section
variable {H : Type} {enc : TypeId × Value → H} {w : World} {base : Nat} {spare : Nat → Bool} {held : Bool} {v : Value} {d : DataW H} {p : List MemPlace} {r : Reach} {b0 : Nat}
def PagesIn (w : World) (v : Value) : Prop := ∃ (a : Option Addr) (n cap : Nat) (ps : List Pg), v = .slice a n cap ∧ RecsAt w a n 6 (ps.map pgR) ∧ n ≤ cap ∧ n ≤ maxLen ∧ ∀ q ∈ ps, q.Ok ∧ q.la.length ≤ maxLen ∧ q.bo.length ≤ maxLen
set_option maxRecDepth 100000 in
theorem open_pages (hv : Value.okWide Try.prog w r b0 60 v) (h : DataW.Trod enc Try.prog w base spare held 60 v d p) : PagesIn w v := by
  obtain ⟨sa, sl, sc, rfl⟩ := okWide_slice Try.underlying60 hv
  obtain ⟨fuel, hf⟩ := h
  have hlt := DataW.trod_lt _ _ _ _ hf
  have hC : Try.prog.cellsOf 66 = 6 := by kernel_rfl
  rcases open_slice Try.underlying60 hf with ⟨hc, hx⟩ | ⟨a, len, cap, m, n, D, Pl, hcs, hb, hl, hm, hmm, hx, hi⟩
  · obtain ⟨rfl, rfl, rfl⟩ : sa = none ∧ sl = 0 ∧ sc = 0 := by simpa [Value.cells] using hc
    exact ⟨none, 0, 0, [], rfl, ⟨rfl, by simp, .inl rfl⟩, Nat.le_refl _, by decide, by simp⟩
  · obtain ⟨rfl, rfl, rfl⟩ : sa = some a ∧ sl = len ∧ sc = cap := by simpa [Value.cells] using hcs
    have hlm : sl ≤ m := by rw [hmm]; split <;> omega
    have key : ∀ i, i < m → ∃ q : Pg, (q.Ok ∧ q.la.length ≤ maxLen ∧ q.bo.length ≤ maxLen) ∧ ∀ j, j < 6 → w.cell? (a.add (i * 6 + j)) = (pgR q)[j]? := by
      intro i him
      obtain ⟨cs', hc, ht'⟩ := hi i him
      rw [hC] at hc
      obtain ⟨_, hcl, hat⟩ := World.cells?_some hc
      obtain ⟨q, hq, rest⟩ := page_cells (by simpa using hcl) ht'
      refine ⟨q, rest, fun j hj => ?_⟩
      have h1 := hat j hj
      rw [add_add] at h1
      rw [h1, ← hq]
    have hch : ∃ Q : Nat → Pg, ∀ i, i < m → ((Q i).Ok ∧ (Q i).la.length ≤ maxLen ∧ (Q i).bo.length ≤ maxLen) ∧ ∀ j, j < 6 → w.cell? (a.add (i * 6 + j)) = (pgR (Q i))[j]? := by
      refine ⟨fun i => if hi : i < m then Classical.choose (key i hi) else zeroP, fun i hi => ?_⟩
      simp only [hi, dif_pos]
      exact Classical.choose_spec (key i hi)
    obtain ⟨Q, hQ⟩ := hch
    refine ⟨some a, sl, sc, (List.range sl).map Q, rfl, ⟨by simp, ?_, ?_⟩, hl, by omega, ?_⟩
    · intro r hr
      simp only [List.mem_map] at hr
      obtain ⟨q, _, rfl⟩ := hr
      rfl
    · by_cases h0 : sl = 0
      · exact .inl h0
      right
      have hz : a.block < w.heap.size := by
        refine hlt (.cell a.block (a.off + 0)) ?_
        rw [hx]
        exact List.mem_append_left _ (MemPlace.mem_row.2 ⟨0, by rw [hC]; omega, rfl⟩)
      have h00 := (hQ 0 (by omega)).2 0 (by decide)
      obtain ⟨b, off, spot⟩ := a
      have hspot : spot = none := by simpa [Addr.add] using World.cell?_spot h00
      subst hspot
      refine ⟨b, off, rfl, hz, ?_⟩
      intro i hi j hj
      have hil : i < sl := by simpa using hi
      have h1 := (hQ i (by omega)).2 j hj
      rw [Go.WideShapes.add_plain] at h1
      rw [h1]
      simp
    · intro q hq
      simp only [List.mem_map, List.mem_range] at hq
      obtain ⟨i, hi, rfl⟩ := hq
      exact (hQ i (by omega)).1
end
end Go.Proofs.Ytmnmonmbdgedbaa
