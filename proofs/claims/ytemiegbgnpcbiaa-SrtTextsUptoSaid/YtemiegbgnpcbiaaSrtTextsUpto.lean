/- Proof of 'SrtTextsUptoSaid' of the given statements: where what comes in is of bulk at most 1,048,576, the Go function diacriticlaw24.SrtTexts returns true, and its arguments read as they did. No condition beyond the statement's own. -/
import Derived.Test.YtemiegbgnpcbiaaRows
import Derived.Test.YtemiegbgnpcbiaaChecked
import Derived.Test.YtemiegbgnpcbiaaSrt12
import Derived.WalkKit
import Derived.ProofKit
import Derived.OpenShut
import Derived.ShutString
import Derived.ChangeOld
import Derived.Below
import Derived.JoinedCond
namespace Go.Proofs.Ytemiegbgnpcbiaa.srtTextsUpto
open Go.ChangeShapes Go.WideShapes Go.ChangeAt Go.RowKit
open Go.ChangeMaps (open_string shut_string)
set_option linter.unusedVariables false

theorem one_le {H : Type} (d : DataW H) : 1 ≤ Rows.uptoBulk d := by
  cases d with
  | lit l => cases l <;> simp [Rows.uptoBulk]
  | nil => simp [Rows.uptoBulk]
  | ptr d => simp [Rows.uptoBulk]
  | slice elems spare => simp [Rows.uptoBulk]
  | agg parts => simp [Rows.uptoBulk]
  | iface t d => simp [Rows.uptoBulk]
  | map entries => simp [Rows.uptoBulk]
  | held h => simp [Rows.uptoBulk]
theorem part_le {H : Type} {d : DataW H} {l : List (DataW H)} (h : d ∈ l) : Rows.uptoBulk d ≤ Rows.uptoBulkAll l := by
  induction l with
  | nil => cases h
  | cons x r ih =>
    simp only [Rows.uptoBulkAll]
    cases List.mem_cons.1 h with
    | inl e => subst e; omega
    | inr e => have := ih e; omega
theorem slice_elems {H : Type} (elems spare : List (DataW H)) : Rows.uptoBulkAll elems + 1 ≤ Rows.uptoBulk (.slice elems spare) := by
  simp only [Rows.uptoBulk]
  omega
theorem string_eq {H : Type} (bytes : List UInt8) : Rows.uptoBulk (DataW.lit (H := H) (.string bytes)) = bytes.length + 1 := by
  simp [Rows.uptoBulk]

/-- a slice of texts that came in -/
theorem open_strs_small {H : Type} {enc : TypeId × Value → H} {w : World} {base : Nat} {spare : Nat → Bool} {held : Bool} {v : Value} {d : DataW H} {p : List MemPlace} {r : Reach} {b0 : Nat}
    (hv : Value.okWide Try.prog w r b0 32 v) (h : DataW.Trod enc Try.prog w base spare held 32 v d p) (hbk : Rows.uptoBulk d ≤ 1048576) :
    ∃ (a : Option Addr) (n cap : Nat) (ps : List (List UInt8)), v = .slice a n cap ∧ StrsAt w a n ps ∧ n ≤ cap ∧ n ≤ maxLen ∧ ∀ p ∈ ps, p.length ≤ 1048576 := by
  obtain ⟨sa, sl, sc, rfl⟩ := Go.WideShapes.okWide_slice Try.underlying32 hv
  obtain ⟨fuel, hf⟩ := h
  have hlt := DataW.trod_lt _ _ _ _ hf
  rcases Go.ChangeShapes.open_strings Try.underlying32 Try.underlying9 (by kernel_rfl) hf with ⟨hc, hx⟩ | ⟨a, len, cap, ss, hc, hb, hl, hcap, hss, hx, hi, hsz⟩
  · obtain ⟨rfl, rfl, rfl⟩ : sa = none ∧ sl = 0 ∧ sc = 0 := by simpa [Value.cells] using hc
    exact ⟨none, 0, 0, [], rfl, ⟨rfl, .inl rfl⟩, Nat.le_refl _, by decide, by simp⟩
  · obtain ⟨rfl, rfl, rfl⟩ : sa = some a ∧ sl = len ∧ sc = cap := by simpa [Value.cells] using hc
    have hlm : sl ≤ ss.length := by rw [hss]; split <;> omega
    refine ⟨some a, sl, sc, (ss.take sl).map fun b => b.data.toList, rfl, ⟨by simp; omega, ?_⟩, hl, by omega, ?_⟩
    · by_cases h0 : sl = 0
      · exact .inl h0
      right
      have hz : a.block < w.heap.size := by
        refine hlt (.cell a.block (a.off + 0)) ?_
        rw [hx]
        exact MemPlace.mem_row.2 ⟨0, by omega, rfl⟩
      obtain ⟨b, off, spot⟩ := a
      have hspot : spot = none := by simpa [Addr.add] using World.cell?_spot (hi 0 (by omega))
      subst hspot
      refine ⟨b, off, rfl, hz, ?_⟩
      intro i h
      have hil : i < sl := by simp at h; omega
      have hc := hi i (by omega)
      rw [Go.WideShapes.add_plain] at hc
      rw [hc]
      have : i < ss.length := by omega
      simp [List.getD_eq_getElem?_getD, this]
    · intro p hp
      obtain ⟨b, hb, rfl⟩ := List.mem_map.1 hp
      have hx1 := congrArg Prod.fst hx
      simp only at hx1
      subst hx1
      have h1 := slice_elems (H := H) (Go.ChangeShapes.strs (ss.take sl)) (Go.ChangeShapes.strs (ss.drop sl))
      have h2 : DataW.lit (H := H) (.string b.data.toList) ∈ Go.ChangeShapes.strs (H := H) (ss.take sl) := List.mem_map.2 ⟨b, hb, rfl⟩
      have h3 := part_le h2
      rw [string_eq] at h3
      omega


theorem own : ownKnob Try.prog.godebug = none := by kernel_rfl
theorem laidOut : laidOutB Try.prog = true := by kernel_rfl

set_option maxRecDepth 100000 in
theorem lifted (os : Os) (started : os.Started) (H : Type) (enc : TypeId × Value → H) (F : Stop.Interp) :
    ReturnsInHanded {} Try.checked os 9 .any ((Rows.OpenSpec.upto Rows.srtTextsSpec).pre6 enc Try.prog Try.f9 Rows.srtTextsUptoRow.domain false) (((Rows.OpenSpec.upto Rows.srtTextsSpec).at F).post enc Try.prog Try.f9 false true false false) := by
  refine returnsInHanded_of_cond (C := Try.checked) (s := Rows.OpenSpec.upto Rows.srtTextsSpec) (k := Rows.uptoSmall) rfl own started (by kernel_rfl) Try.func9
    (OpenSpec.witness (enc := enc) (C := Try.checked) (s := Rows.OpenSpec.upto Rows.srtTextsSpec) (k := Rows.uptoSmall) rfl false ⟨#[], #[.slice none 0 0], []⟩ 8 (by kernel_rfl) (by kernel_rfl) (by kernel_rfl)
      (x := ([.nil], [], [])) (by kernel_rfl) rfl (by kernel_rfl)) ?_
  intro W base args ds gs before hval0 hW _ hk _
  have hval : ∀ (j : Nat) t v, Try.f9.params[j]? = some t → args[j]? = some v → Value.okWide Try.prog W .any base t v := hval0
  have hW' := hW
  obtain ⟨p, q, hA0, hV, rfl, hfz, hnd⟩ := hW
  have hA : DataW.TrodAll enc Try.prog W 0 (fun _ => true) true Try.f9.params.toList args.toList ds p := hA0
  rw [Try.params9] at hA hval
  obtain ⟨v0, vs0, d0, ds0, p0, q0, hargs, rfl, rfl, h0, r0⟩ := trodAll_cons hA
  obtain ⟨rfl, rfl, rfl⟩ := trodAll_nil r0
  obtain rfl : args = #[v0] := by cases args; simp_all
  obtain ⟨rfl, rfl⟩ := trodVars_none hV
  have k0 := h0
  have lt0 : ∀ x ∈ p0, x.block < W.heap.size := by obtain ⟨m, hm⟩ := k0; exact DataW.trod_lt m _ _ _ hm
  have hbk : Rows.uptoBulk d0 ≤ 1048576 := by
    have h := of_decide_eq_true hk
    simp only [List.append_nil, Rows.uptoBulkAll] at h
    omega
  have w0 := open_strs_small (hval 0 32 v0 rfl rfl) h0 hbk
  clear hA0 hval0
  refine (walk_SrtTexts W v0 w0).mono fun e W' ⟨he, bel⟩ => ?_
  subst he
  exact ⟨_, rfl, _, _, _, [], _, [], hW', trodAll_mk1 (shut_bool Try.underlying4 _), (trodAll_cons_mk (Below.trod laidOut (by kernel_rfl) (of_decide_eq_true (by kernel_rfl)) k0 bel lt0) trodAll_mk0), rfl, bel.frame _, fun h => by cases h⟩

/-- the statement -/
theorem proved : Rows.SrtTextsUptoSaid :=
  OpenClaim.holds_of_cond 9 Try.f9 rfl rfl rfl rfl rfl rfl rfl ⟨rfl, rfl, rfl, rfl, rfl⟩ rfl rfl rfl rfl rfl (by kernel_rfl) Try.func9 (by kernel_rfl)
    (of_decide_eq_true (by kernel_rfl)) (by unfold Func.isWrapper; first | (rw [if_pos (by decide +kernel)]; kernel_rfl) | (rw [if_neg (by decide +kernel)]; exact ⟨rfl, rfl⟩))
    (fun os started H enc _ F => lifted os started H enc F)
end Go.Proofs.Ytemiegbgnpcbiaa.srtTextsUpto
