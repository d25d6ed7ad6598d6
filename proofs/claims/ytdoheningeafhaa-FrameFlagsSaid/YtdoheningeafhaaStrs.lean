/- Slices of texts: as they come in, as a call makes them; octet.Join. -/
import Derived.Test.YtdoheningeafhaaRd
import Derived.Test.YtdoheningeafhaaStr
import Derived.Test.YtdoheningeafhaaShelf
import Derived.SliceStrings
import Derived.OpenShut
namespace Go.Proofs.Ytdoheningeafhaa
open Go.RowKit
set_option linter.unusedVariables false

/-- texts that lie in a slice's cells -/
def StrsAt (w : World) (a : Option Addr) (n : Nat) (ps : List (List UInt8)) : Prop :=
  ps.length = n ∧ (n = 0 ∨ ∃ b off, a = some ⟨b, off, none⟩ ∧ b < w.heap.size ∧ ∀ i (h : i < ps.length), w.cell? ⟨b, off + i, none⟩ = some (.string ⟨ps[i].toArray⟩))

theorem StrsAt.one (w : World) (l : List UInt8) (T : TypeId) : StrsAt (w.alloc (.cells #[.string ⟨l.toArray⟩] T)) (some ⟨w.heap.size, 0, none⟩) 1 [l] := by
  refine ⟨rfl, .inr ⟨_, _, rfl, by simp, ?_⟩⟩
  intro i h
  obtain rfl : i = 0 := by simpa using h
  exact cell_at (at_a0 _ _ _)
theorem StrsAt.two (w : World) (l m : List UInt8) (T : TypeId) : StrsAt (w.alloc (.cells #[.string ⟨l.toArray⟩, .string ⟨m.toArray⟩] T)) (some ⟨w.heap.size, 0, none⟩) 2 [l, m] := by
  refine ⟨rfl, .inr ⟨_, _, rfl, by simp, ?_⟩⟩
  intro i h
  match i, h with
  | 0, _ => exact cell_at (at_a0 _ _ _)
  | 1, _ => exact cell_at (at_a0 _ _ _)

theorem StrsAt.below {w w' : World} {a : Option Addr} {n : Nat} {ps : List (List UInt8)} (h : StrsAt w a n ps) (hb : Below w.heap.size w w') : StrsAt w' a n ps := by
  refine ⟨h.1, ?_⟩
  rcases h.2 with h0 | ⟨b, off, rfl, hlt, hc⟩
  · exact .inl h0
  · exact .inr ⟨b, off, rfl, Nat.lt_of_lt_of_le hlt hb.size, fun i h => by rw [hb.cell (by exact hlt)]; exact hc i h⟩
set_option maxRecDepth 100000 in
/-- a slice of texts that came in -/
theorem open_strs {H : Type} {enc : TypeId × Value → H} {w : World} {base : Nat} {spare : Nat → Bool} {held : Bool} {v : Value} {d : DataW H} {p : List MemPlace} {r : Reach} {b0 : Nat}
    (hv : Value.okWide Try.prog w r b0 80 v) (h : DataW.Trod enc Try.prog w base spare held 80 v d p) :
    ∃ (a : Option Addr) (n cap : Nat) (ps : List (List UInt8)), v = .slice a n cap ∧ StrsAt w a n ps ∧ n ≤ cap ∧ n ≤ maxLen ∧ ∀ p ∈ ps, p.length ≤ maxLen := by
  obtain ⟨sa, sl, sc, rfl⟩ := Go.WideShapes.okWide_slice Try.underlying80 hv
  obtain ⟨fuel, hf⟩ := h
  have hlt := DataW.trod_lt _ _ _ _ hf
  rcases Go.ChangeShapes.open_strings Try.underlying80 Try.underlying9 (by kernel_rfl) hf with ⟨hc, hx⟩ | ⟨a, len, cap, ss, hc, hb, hl, hcap, hss, hx, hi, hsz⟩
  · obtain ⟨rfl, rfl, rfl⟩ : sa = none ∧ sl = 0 ∧ sc = 0 := by simpa [Value.cells] using hc
    exact ⟨none, 0, 0, [], rfl, ⟨rfl, .inl rfl⟩, Nat.le_refl _, by decide, by simp⟩
  · obtain ⟨rfl, rfl, rfl⟩ : sa = some a ∧ sl = len ∧ sc = cap := by simpa [Value.cells] using hc
    have hlm : sl ≤ ss.length := by rw [hss]; split <;> omega
    refine ⟨some a, sl, sc, (ss.take sl).map fun b => b.data.toList, rfl, ⟨by simp; omega, ?_⟩, hl, by omega, ?_⟩
    · by_cases h0 : sl = 0
      · exact .inl h0
      right
      have hz : a.block < w.heap.size := by
        refine hlt (.cell a.block (a.off + 0)) ?_
        rw [hx]
        exact MemPlace.mem_row.2 ⟨0, by omega, rfl⟩
      obtain ⟨b, off, spot⟩ := a
      have hspot : spot = none := by simpa [Addr.add] using World.cell?_spot (hi 0 (by omega))
      subst hspot
      refine ⟨b, off, rfl, hz, ?_⟩
      intro i h
      have hil : i < sl := by simp at h; omega
      have hc := hi i (by omega)
      rw [Go.WideShapes.add_plain] at hc
      rw [hc]
      have : i < ss.length := by omega
      simp [List.getD_eq_getElem?_getD, this]
    · intro p hp
      obtain ⟨b, hb, rfl⟩ := List.mem_map.1 hp
      have := hsz b (List.mem_of_mem_take hb)
      rw [Array.length_toList]
      exact this

theorem flat_take (ps : List (List UInt8)) (k : Nat) (h : k < ps.length) : (ps.take (k + 1)).flatten = (ps.take k).flatten ++ ps[k] := by
  rw [List.take_succ_eq_append_getElem h, List.flatten_append]; simp [-List.flatten_append]

theorem flat_len (ps : List (List UInt8)) (m : Nat) (h : ∀ p ∈ ps, p.length ≤ m) : ps.flatten.length ≤ m * ps.length := by
  induction ps with
  | nil => simp
  | cons p ps ih =>
    have h1 := h p List.mem_cons_self
    have h2 := ih fun q hq => h q (List.mem_cons_of_mem _ hq)
    rw [List.flatten_cons, List.length_append, List.length_cons, Nat.mul_succ]
    omega


theorem join_flat (ps : List (List UInt8)) : Lib.join ps [] = ps.flatten := by
  cases ps with
  | nil => rfl
  | cons x r => rw [Lib.join_cons]; simp [Lib.joinTail]

set_option maxRecDepth 100000 in
theorem octJoin_any (a : Option Addr) (n cap : Nat) (ps : List (List UInt8)) (w : World) (h : StrsAt w a n ps) (hcap : n ≤ cap) (hn : n ≤ 1000000000) (hs : ps.flatten.length ≤ 1000000000) :
    Calls Try.prog 77 #[.slice a n cap] w fun e w' => e = .returned (.string ⟨ps.flatten.toArray⟩) ∧ Below w.heap.size w w' := by
  have key : Calls Try.prog 117 #[.slice a n cap, .string ⟨#[]⟩] w fun e w' => e = .returned (.string ⟨ps.flatten.toArray⟩) ∧ Below w.heap.size w w' := by
    obtain ⟨hl, h⟩ := h
    rcases h with rfl | ⟨b, off, rfl, hb, hc⟩
    · obtain rfl : ps = [] := List.eq_nil_of_length_eq_zero hl
      exact (Try.strings_Join_none a cap ⟨#[]⟩ w).mono fun e w' ⟨he, hw⟩ => ⟨he, hw ▸ Below.refl _ _⟩
    · have e1 : (ps.map fun p => (⟨p.toArray⟩ : ByteArray)).map (·.data.toList) = ps := by rw [List.map_map]; exact (List.map_congr_left (g := id) (fun p _ => rfl)).trans (List.map_id _)
      have e2 : (ps.map fun p => (⟨p.toArray⟩ : ByteArray)).length = n := by simpa using hl
      have e3 : (⟨#[]⟩ : ByteArray).data.toList = [] := rfl
      have k := Try.strings_Join b off cap (ps.map fun p => ⟨p.toArray⟩) ⟨#[]⟩ w (by
        intro j x hx
        rw [List.getElem?_map] at hx
        obtain ⟨p, hp, rfl⟩ := Option.map_eq_some_iff.1 hx
        obtain ⟨hj, rfl⟩ := List.getElem?_eq_some_iff.1 hp
        exact hc j hj) hb (by rw [e2]; omega) (by rw [e2]; exact hcap) (by rw [e1, e3, join_flat]; omega)
      rw [e1, e2, e3, join_flat] at k
      exact k
  have H := Lib.hid key
  clear key h
  go_enter Try.func77, Try.ntmps77
  go_wp2_with (go_at_call 117; refine H.out.mono ?_; rintro e w1 ⟨rfl, hb1⟩)
  go_ret
  exact ⟨rfl, hb1⟩
end Go.Proofs.Ytdoheningeafhaa
