/- From the rows' condition to what the walks ask of the world: the library's tables, and its open variable. -/
import Derived.Test.YtffhmjlojmoomaaGreatDoorRows
import Derived.Test.YtffhmjlojmoomaaGreatDoorZT1
import Derived.Lib.LaidU8
import Derived.Deep.DeepHandedRow
import Derived.Deep.DeepWitnessRowRef
import Derived.Shelf.Vars

namespace Go.Proofs.YtffhmjlojmoomaaGreatDoor
open Go.RowKit Go.Lib
set_option linter.unusedVariables false
set_option linter.unusedSimpArgs false

theorem cellLt {w : World} {b j : Nat} {v : Value} (h : w.cell? ⟨b, j, none⟩ = some v) : b < w.heap.size := by
  rcases Nat.lt_or_ge b w.heap.size with h1 | h1
  · exact h1
  · unfold World.cell? at h
    simp [Array.getElem?_eq_none h1] at h
def laid3 : List (String × DataW Unit) := [("math/bits.deBruijn32tab", Rows.laid_math_bits_deBruijn32tab), ("unicode/utf8.acceptRanges", Rows.laid_unicode_utf8_acceptRanges), ("unicode/utf8.first", Rows.laid_unicode_utf8_first)]
theorem gF : Tryz.prog.globalNamed "unicode/utf8.first" = some 0 := by kernel_rfl
theorem gA : Tryz.prog.globalNamed "unicode/utf8.acceptRanges" = some 1 := by kernel_rfl
theorem gB : Tryz.prog.globalNamed "math/bits.deBruijn32tab" = some 2 := by kernel_rfl
theorem tF : (Tryz.prog.globals[0]?).map (·.type) = some 158 := by kernel_rfl
theorem tA : (Tryz.prog.globals[1]?).map (·.type) = some 161 := by kernel_rfl
theorem tB : (Tryz.prog.globals[2]?).map (·.type) = some 182 := by kernel_rfl
theorem cU8 : Tryz.prog.cellsOf 5 = 1 := by kernel_rfl
theorem cF : Tryz.prog.cellsOf 158 = 256 := by kernel_rfl
theorem cAR : Tryz.prog.cellsOf 160 = 2 := by kernel_rfl
theorem cB : Tryz.prog.cellsOf 182 = 32 := by kernel_rfl
theorem first_data : Rows.laid_unicode_utf8_first = firstData := by kernel_rfl
theorem accept_data : (Rows.laid_unicode_utf8_acceptRanges : DataW Unit) = acceptData := by kernel_rfl
def deZ : List Int := [0, 1, 28, 2, 29, 14, 24, 3, 30, 22, 20, 15, 25, 17, 4, 8, 31, 27, 13, 23, 21, 19, 16, 7, 26, 12, 18, 6, 11, 5, 10, 9]
theorem de_data : (Rows.laid_math_bits_deBruijn32tab : DataW Unit) = tabData .u8 deZ := rfl
theorem tabs_of {w : World} (h : laidMet Tryz.prog laid3 w) : Tabs w := by
  have h3 := laidMet.reads h (n := "unicode/utf8.first") (d := Rows.laid_unicode_utf8_first) (.tail _ (.tail _ (.head _)))
  have h4 := laidMet.reads h (n := "unicode/utf8.acceptRanges") (d := Rows.laid_unicode_utf8_acceptRanges) (.tail _ (.head _))
  rw [first_data] at h3
  rw [accept_data] at h4
  refine ⟨fun c hc => ?_, fun i hi => ?_⟩
  · obtain ⟨g, t, cs, fuel, p, hg, hty, hvar, hd⟩ := h3
    obtain rfl := Option.some.inj (gF.symm.trans hg)
    obtain rfl := Option.some.inj (tF.symm.trans hty)
    have hcs := cells_of_tab Tryz.underlying158 Tryz.underlying5 cU8 cF hd
    have := World.var?_cell hg hvar c
    rw [this, ← Array.getElem?_toList, hcs]
    simp [firstTab, hc]
  · obtain ⟨g, t, cs, fuel, p, hg, hty, hvar, hd⟩ := h4
    obtain rfl := Option.some.inj (gA.symm.trans hg)
    obtain rfl := Option.some.inj (tA.symm.trans hty)
    obtain ⟨fuel', d, q, hdi, he⟩ := array_elem Tryz.underlying161 hd i hi
    simp only [List.getElem?_map, List.getElem?_range hi, Option.map_some, Option.some.injEq] at hdi
    subst hdi
    rw [cAR] at he
    have hcs := ints_of_struct Tryz.underlying160 (fun j f hj => by
      match j, hj with
      | 0, hj => simp at hj; subst hj; exact ⟨Tryz.underlying5, rfl, cU8⟩
      | 1, hj => simp at hj; subst hj; exact ⟨Tryz.underlying5, rfl, cU8⟩
      | j + 2, hj => simp at hj) (by rw [cAR]; rfl) he
    have e0 := congrArg (·[0]?) hcs
    have e1 := congrArg (·[1]?) hcs
    simp only [List.getElem?_take, List.getElem?_drop] at e0 e1
    constructor
    · rw [World.var?_cell hg hvar (2 * i), ← Array.getElem?_toList]
      simpa [Nat.mul_comm] using e0
    · rw [World.var?_cell hg hvar (2 * i + 1), ← Array.getElem?_toList]
      simpa [Nat.mul_comm] using e1
theorem de_at : ∀ t : Fin 32, 2 ^ t.val * 125613361 % 4294967296 / 134217728 < 32 ∧ deZ.getD (2 ^ t.val * 125613361 % 4294967296 / 134217728) 0 = (t.val : Int) := by decide +kernel
theorem deb_of {w : World} (h : laidMet Tryz.prog laid3 w) : DeB w := by
  have hT : TabIs Tryz.prog w "math/bits.deBruijn32tab" .u8 deZ := tabIs_of_head gB tB Tryz.underlying182 Tryz.underlying5 cU8 cB h
  intro t ht
  obtain ⟨h1, h2⟩ := de_at ⟨t, ht⟩
  have hc := hT.cell gB (2 ^ t * 125613361 % 4294967296 / 134217728) h1
  rw [h2] at hc
  exact ⟨hc, cellLt hc⟩
theorem mx_of {w : World} (h : w.ShapedOpen Tryz.prog) : ∃ m, Mx m w := by
  obtain ⟨m, hm⟩ := cell_of_shapedOpen_int (P := Tryz.prog) (g := 3) (t := 3) (zero := #[.int .i64 0]) (k := .i64) h (of_decide_eq_true (by kernel_rfl)) (by kernel_rfl) rfl (by kernel_rfl) (by kernel_rfl) Tryz.underlying3
  exact ⟨m, hm, cellLt hm⟩
theorem byte_of {x : Int} (h : (Lit.int .u8 x).wf = true) : ∃ u : UInt8, (u.toNat : Int) = x := by
  have h2 : 0 ≤ x ∧ x < 256 := by
    simp [Lit.wf, IntKind.signed, IntKind.bits, IntKind.min, IntKind.max] at h
    omega
  refine ⟨UInt8.ofNat x.toNat, ?_⟩
  rw [UInt8.toNat_ofNat', Nat.mod_eq_of_lt (by omega)]
  omega
/-- a world in which the tables lie as their initialisers lay them -/
noncomputable def laidWorld (os : Os) : World :=
  let w0 := World.holding Tryz.prog os ⟨#[], #[], []⟩
  let put (h : Array Obj) (g : Nat) (cs : Array Value) : Array Obj := h.modify g fun
    | .cells _ t frozen => .cells cs t frozen
    | o => o
  let h1 := put w0.heap 0 (firstTab.map fun z => Value.int .u8 z).toArray
  let h2 := put h1 1 ((List.range 16).flatMap fun i => [Value.int .u8 (accLo i), Value.int .u8 (accHi i)]).toArray
  let h3 := put h2 2 (deZ.map fun z => Value.int .u8 z).toArray
  { w0 with heap := h3 }
theorem laid_met (os : Os) (args : Array Value) : laidMet Tryz.prog laid3 ((laidWorld os).forCall (fun _ _ => 0) ⟨#[], args, []⟩).memory :=
  laidMet_of_run' 8 (by kernel_rfl) (by kernel_rfl)
end Go.Proofs.YtffhmjlojmoomaaGreatDoor
