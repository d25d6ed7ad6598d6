/- Layer 15 (tag): tags that come in as arguments; Light, walked. -/
import Derived.Test.YtmnmonmbdgedbaaTg12
namespace Go.Proofs.Ytmnmonmbdgedbaa
open Go.RowKit Go.ChangeShapes Go.WideShapes Go.Deep
set_option linter.unusedVariables false
set_option linter.unusedSimpArgs false

def TagIn (w : World) (v : Value) : Prop := ∃ (t : Tg) (a : Option Addr) (n cap : Nat), v = .agg #[.int .i64 t.v, .int .u8 t.rv.toNat, .int .u8 t.fl.toNat, .slice a n cap] ∧ RecsAt w a n 6 (t.fs.map frR) ∧ n ≤ maxLen ∧ ∀ f ∈ t.fs, f.id.length ≤ maxLen ∧ f.bo.length ≤ maxLen
section
variable {H : Type} {enc : TypeId × Value → H} {w : World} {base : Nat} {spare : Nat → Bool} {held : Bool} {fuel : Nat} {cs : List Value} {x : DataW H × List MemPlace}
set_option maxRecDepth 100000 in
theorem thead_cells {c0 c1 c2 : Value} (h : DataW.trod enc Try.prog w base spare held fuel 23 [c0, c1, c2] = some x) :
    ∃ (v : Int) (rv fl : UInt8), c0 = .int .i64 v ∧ c1 = .int .u8 rv.toNat ∧ c2 = .int .u8 fl.toNat := by
  obtain ⟨xs, n, rfl, hx, hl, hxl, hfs⟩ := DataW.trod_struct Try.underlying23 h
  have hxl3 : xs.length = 3 := hxl
  match xs, hxl3 with
  | [y0, y1, y2], _ =>
    have h0 : DataW.trod enc Try.prog w base spare held n 3 [c0] = some y0 := hfs 0 _ rfl
    have h1 : DataW.trod enc Try.prog w base spare held n 5 [c1] = some y1 := hfs 1 _ rfl
    have h2 : DataW.trod enc Try.prog w base spare held n 5 [c2] = some y2 := hfs 2 _ rfl
    obtain ⟨n0, e0, _, k0⟩ := DataW.trod_int Try.underlying3 h0
    obtain ⟨n1, e1, _, k1⟩ := DataW.trod_int Try.underlying5 h1
    obtain ⟨n2, e2, _, k2⟩ := DataW.trod_int Try.underlying5 h2
    obtain ⟨a1, rfl⟩ := wf_u8 k1
    obtain ⟨a2, rfl⟩ := wf_u8 k2
    exact ⟨n0, a1, a2, by simpa using e0, by simpa using e1, by simpa using e2⟩
set_option maxRecDepth 100000 in
theorem frames_cells {c : Value} (hf : DataW.trod enc Try.prog w base spare held fuel 24 [c] = some x) :
    ∃ (a : Option Addr) (n cap : Nat) (fs : List Fr), c = .slice a n cap ∧ RecsAt w a n 6 (fs.map frR) ∧ n ≤ maxLen ∧ ∀ f ∈ fs, f.id.length ≤ maxLen ∧ f.bo.length ≤ maxLen := by
  have hlt := DataW.trod_lt _ _ _ _ hf
  have hC : Try.prog.cellsOf 47 = 6 := by kernel_rfl
  rcases open_slice Try.underlying24 hf with ⟨hc, hx⟩ | ⟨a, len, cap, m, n, D, Pl, hcs, hb, hl, hm, hmm, hx, hi⟩
  · obtain rfl : c = .slice none 0 0 := by simpa using hc
    exact ⟨none, 0, 0, [], rfl, ⟨rfl, by simp, .inl rfl⟩, by decide, by simp⟩
  · obtain rfl : c = .slice (some a) len cap := by simpa using hcs
    have hlm : len ≤ m := by rw [hmm]; split <;> omega
    have key : ∀ i, i < m → ∃ q : Fr, (q.id.length ≤ maxLen ∧ q.bo.length ≤ maxLen) ∧ ∀ j, j < 6 → w.cell? (a.add (i * 6 + j)) = (frR q)[j]? := by
      intro i him
      obtain ⟨cs', hc, ht'⟩ := hi i him
      rw [hC] at hc
      obtain ⟨_, hcl, hat⟩ := World.cells?_some hc
      obtain ⟨q, hq, rest⟩ := frame_cells (by simpa using hcl) ht'
      refine ⟨q, rest, fun j hj => ?_⟩
      have h1 := hat j hj
      rw [add_add] at h1
      rw [h1, ← hq]
    have hch : ∃ Q : Nat → Fr, ∀ i, i < m → ((Q i).id.length ≤ maxLen ∧ (Q i).bo.length ≤ maxLen) ∧ ∀ j, j < 6 → w.cell? (a.add (i * 6 + j)) = (frR (Q i))[j]? := by
      refine ⟨fun i => if hi : i < m then Classical.choose (key i hi) else zeroF, fun i hi => ?_⟩
      simp only [hi, dif_pos]
      exact Classical.choose_spec (key i hi)
    obtain ⟨Q, hQ⟩ := hch
    refine ⟨some a, len, cap, (List.range len).map Q, rfl, ⟨by simp, ?_, ?_⟩, by omega, ?_⟩
    · intro r hr
      simp only [List.mem_map] at hr
      obtain ⟨q, _, rfl⟩ := hr
      rfl
    · by_cases h0 : len = 0
      · exact .inl h0
      right
      have hz : a.block < w.heap.size := by
        refine hlt (.cell a.block (a.off + 0)) ?_
        rw [hx]
        exact List.mem_append_left _ (MemPlace.mem_row.2 ⟨0, by rw [hC]; omega, rfl⟩)
      have h00 := (hQ 0 (by omega)).2 0 (by decide)
      obtain ⟨b, off, spot⟩ := a
      have hspot : spot = none := by simpa [Addr.add] using World.cell?_spot h00
      subst hspot
      refine ⟨b, off, rfl, hz, ?_⟩
      intro i hi j hj
      have hil : i < len := by simpa using hi
      have h1 := (hQ i (by omega)).2 j hj
      rw [Go.WideShapes.add_plain] at h1
      rw [h1]
      simp
    · intro q hq
      simp only [List.mem_map, List.mem_range] at hq
      obtain ⟨i, hi, rfl⟩ := hq
      exact (hQ i (by omega)).1
set_option maxRecDepth 100000 in
theorem tag_cells (hlen : cs.length = 4) (h : DataW.trod enc Try.prog w base spare held fuel 26 cs = some x) : TagIn w (.agg cs.toArray) := by
  match cs, hlen with
  | [c0, c1, c2, c3], _ =>
    obtain ⟨xs, n, rfl, hx, hl, hxl, hfs⟩ := DataW.trod_struct Try.underlying26 h
    have hxl2 : xs.length = 2 := hxl
    match xs, hxl2 with
    | [y0, y1], _ =>
      have h0 : DataW.trod enc Try.prog w base spare held n 23 [c0, c1, c2] = some y0 := hfs 0 _ rfl
      have h1 : DataW.trod enc Try.prog w base spare held n 24 [c3] = some y1 := hfs 1 _ rfl
      obtain ⟨v, rv, fl, rfl, rfl, rfl⟩ := thead_cells h0
      obtain ⟨a, n2, cap, fs, rfl, g1, g2, g3⟩ := frames_cells h1
      exact ⟨⟨v, rv, fl, fs⟩, a, n2, cap, rfl, g1, g2, g3⟩
end
section
variable {H : Type} {enc : TypeId × Value → H} {w : World} {base : Nat} {spare : Nat → Bool} {held : Bool} {v : Value} {d : DataW H} {p : List MemPlace} {r : Reach} {b0 : Nat}
set_option maxRecDepth 100000 in
theorem open_tag (hv : Value.okWide Try.prog w r b0 26 v) (h : DataW.Trod enc Try.prog w base spare held 26 v d p) : TagIn w v := by
  obtain ⟨cs, rfl, hsz⟩ := okWide_struct Try.underlying26 hv
  have h4 : cs.size = 4 := hsz.trans (by kernel_rfl)
  obtain ⟨fuel, hf⟩ := h
  exact tag_cells (cs := cs.toList) (by simpa using h4) (by simpa [Value.cells] using hf)
end

/-- a frame that isn't great -/
def lightF (f : Fr) : Bool := decide (f.bo.length ≤ 300) && decide (f.id.length ≤ 50)
def lightT (fs : List Fr) : Bool := fs.all lightF && decide (fs.length ≤ 30)
def SaysB (b : Bool) (w : World) (e : Ending) (w' : World) : Prop := e = .returned (.bool b) ∧ Below w.heap.size w w'
set_option maxHeartbeats 4000000 in
set_option maxRecDepth 100000 in
theorem light_in (v : Int) (rv fl : UInt8) (a : Option Addr) (n cap : Nat) (fs : List Fr) (w : World) (hs : Hid (RecsAt w a n 6 (fs.map frR))) (hn : n ≤ maxLen) :
    Calls Try.prog 14 #[.agg #[.int .i64 v, .int .u8 rv.toNat, .int .u8 fl.toNat, .slice a n cap]] w (SaysB (lightT fs) w) := by
  have HL : Hid (fs.length = n) := Lib.hid (by simpa using hs.out.1)
  unfold maxLen at hn
  have hni : (n : Int) ≤ 9223372036854775807 := by omega
  have HE : Hid (lightT fs = (fs.all lightF && decide (fs.length ≤ 30))) := Lib.hid rfl
  unfold SaysB
  generalize lightT fs = res at *
  go_enter Try.func14, Try.ntmps14
  go_upto_region 1 with (fail)
  have X := Lib.hid (at_a0 w #[.int .i64 v, .int .u8 rv.toNat, .int .u8 fl.toNat, .slice a n cap] 26)
  have K : Hid (Below w.heap.size w (w.alloc (.cells #[.int .i64 v, .int .u8 rv.toNat, .int .u8 fl.toNat, .slice a n cap] 26))) := Lib.hid ((Below.refl _ _).alloc (Nat.le_refl _) _)
  have HS := Lib.hid (hs.out.below K.out)
  have hx0 := (Array.getElem?_eq_some_iff.1 X.out).1
  generalize w.alloc (.cells #[.int .i64 v, .int .u8 rv.toNat, .int .u8 fl.toNat, .slice a n cap] 26) = w0 at *
  obtain ⟨x0, x1, x2, x3⟩ := cells4 (X.out)
  go_wp2
  clear x0 x1 x2 x3
  go_loopw [8] (fun i wr => ∃ (j : Nat), j ≤ n ∧ i = .int .i64 j ∧ Hid (∀ f ∈ fs.take j, lightF f = true) ∧ Hid (Below w0.heap.size w0 wr)) (fun i _ => n - (intOf i).toNat)
  case atStart => exact ⟨0, by omega, rfl, Lib.hid (by simp), Lib.hid (Below.refl _ _)⟩
  case round =>
    obtain ⟨j, hj, rfl, HG, HB⟩ := hrel
    replace X := Lib.hid (block_below X.out HB.out)
    replace HS := Lib.hid (HS.out.below HB.out)
    replace K := Lib.hid (nextB K.out HB.out)
    obtain ⟨x0, x1, x2, x3⟩ := cells4 (X.out)
    by_cases hlt : j < n
    · have g0 : (j : Int) < n := by omega
      have hjl : j < fs.length := by rw [HL.out]; exact hlt
      obtain ⟨b, off, rfl, hbb, c0, c1, c2, c3, c4, c5⟩ := frs_cells HS.out j hjl
      have HM := Lib.hid (fun h => take_all_snoc (P := fun x => lightF x = true) hjl HG.out h)
      have HA : Hid (lightF fs[j] = false → fs.all lightF = false) := Lib.hid (fun h => by
        rw [List.all_eq_false]
        exact ⟨fs[j], List.getElem_mem hjl, by simpa using h⟩)
      clear HG
      generalize fs[j] = f at *
      have HLF : Hid (lightF f = (decide (f.bo.length ≤ 300) && decide (f.id.length ≤ 50))) := Lib.hid rfl
      by_cases h1 : (300 : Int) < f.bo.length
      · have HF := Lib.hid (HA.out (by rw [HLF.out]; simp; omega))
        go_wp2
        go_ret
        exact ⟨by rw [HE.out, HF.out]; rfl, K.out.alloc K.out.size _⟩
      · by_cases h2 : (50 : Int) < f.id.length
        · have HF := Lib.hid (HA.out (by rw [HLF.out]; simp; omega))
          go_wp2
          go_ret
          exact ⟨by rw [HE.out, HF.out]; rfl, K.out.alloc K.out.size _⟩
        · have HF := Lib.hid (HM.out (by rw [HLF.out]; simp; omega))
          have HB2 := Lib.hid (HB.out.alloc HB.out.size (.cells #[.string ⟨f.id.toArray⟩, .int .u8 f.st.toNat, .int .u8 f.fm.toNat, .int .u8 f.gr.toNat, .string ⟨f.bo.toArray⟩, .int .i64 f.pl] 47))
          go_wp2
          refine ⟨⟨j + 1, by omega, by simp, HF, HB2⟩, by simp [intOf]; omega⟩
    · have g0 : ¬ (j : Int) < n := by omega
      have hjn : j = n := by omega
      subst hjn
      have HF : Hid (fs.all lightF = true) := Lib.hid (by
        rw [List.all_eq_true]
        have e0 : fs.take j = fs := List.take_of_length_le (by rw [HL.out]; exact Nat.le_refl _)
        have := HG.out
        rw [e0] at this
        exact this)
      go_wp2
      go_ret
      refine ⟨?_, K.out⟩
      rw [HE.out, HF.out, HL.out, Bool.true_and]
      exact congrArg (fun b => Ending.returned (Value.bool b)) (by rw [Bool.eq_iff_iff]; simp; omega)
end Go.Proofs.Ytmnmonmbdgedbaa
