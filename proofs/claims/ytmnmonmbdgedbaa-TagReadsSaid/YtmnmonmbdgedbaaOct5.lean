/- The walks of layer 1 (octet), fifth part: the document's reader, by value. -/
import Derived.Test.YtmnmonmbdgedbaaOcx
import Derived.Test.YtmnmonmbdgedbaaLow
namespace Go.Proofs.Ytmnmonmbdgedbaa
open Go.RowKit

theorem info_ref01In : (Try.prog.info? 103).map (·.size) = some 5 := by kernel_rfl
abbrev rdV (m : Rd) : Value := .agg #[.string ⟨m.t.toArray⟩, .int .i64 m.nx, .int .i64 m.bs, .int .i64 m.cd, .int .i64 m.pl]

theorem InAt.all {T : TypeId} {w : World} {b : Nat} {m : Rd} (h : InAt T w b m) : (w.cell? ⟨b, 0, none⟩ = some (.string ⟨m.t.toArray⟩) ∧ w.cell? ⟨b, 1, none⟩ = some (.int .i64 m.nx) ∧ w.cell? ⟨b, 2, none⟩ = some (.int .i64 m.bs) ∧
    w.cell? ⟨b, 3, none⟩ = some (.int .i64 m.cd) ∧ w.cell? ⟨b, 4, none⟩ = some (.int .i64 m.pl)) ∧ w.frozen? ⟨b, 0, none⟩ = false ∧ w.frozen? ⟨b, 1, none⟩ = false ∧ w.frozen? ⟨b, 2, none⟩ = false ∧ w.frozen? ⟨b, 3, none⟩ = false ∧ w.frozen? ⟨b, 4, none⟩ = false :=
  ⟨⟨h.c0, h.c1, h.c2, h.c3, h.c4⟩, h.f 0, h.f 1, h.f 2, h.f 3, h.f 4⟩
/-- an empty reader -/
def Rd.zero : Rd := ⟨[], 0, 0, 0, 0⟩
/-- the two boxes of a function that takes and gives a reader, behind a call: m's copy, and the result's -/
theorem boxes {T : TypeId} {w w1 : World} {m : Rd} (h : Below ((w.alloc (.cells #[.string ⟨m.t.toArray⟩, .int .i64 m.nx, .int .i64 m.bs, .int .i64 m.cd, .int .i64 m.pl] T)).alloc (.cells #[.string ⟨#[]⟩, .int .i64 0, .int .i64 0, .int .i64 0, .int .i64 0] T)).heap.size
    ((w.alloc (.cells #[.string ⟨m.t.toArray⟩, .int .i64 m.nx, .int .i64 m.bs, .int .i64 m.cd, .int .i64 m.pl] T)).alloc (.cells #[.string ⟨#[]⟩, .int .i64 0, .int .i64 0, .int .i64 0, .int .i64 0] T)) w1) :
    InAt T w1 w.heap.size m ∧ InAt T w1 (w.heap.size + 1) Rd.zero := by
  have h1 : InAt T ((w.alloc (.cells #[.string ⟨m.t.toArray⟩, .int .i64 m.nx, .int .i64 m.bs, .int .i64 m.cd, .int .i64 m.pl] T)).alloc (.cells #[.string ⟨#[]⟩, .int .i64 0, .int .i64 0, .int .i64 0, .int .i64 0] T)) w.heap.size m := at_a1 _ _ _ _
  have h2 : InAt T ((w.alloc (.cells #[.string ⟨m.t.toArray⟩, .int .i64 m.nx, .int .i64 m.bs, .int .i64 m.cd, .int .i64 m.pl] T)).alloc (.cells #[.string ⟨#[]⟩, .int .i64 0, .int .i64 0, .int .i64 0, .int .i64 0] T)) (w.heap.size + 1) Rd.zero := at_a2 _ _ _ _
  exact ⟨h1.below h, h2.below h⟩

set_option maxRecDepth 100000 in
theorem rleft_any (m : Rd) (w : World) (hm : m.Ok) : Calls Try.prog 103 #[rdV m] w fun e w' => e = .returned (.int .i64 m.left) ∧ Below w.heap.size w w' := by
  obtain ⟨h0, h3, h1, h2⟩ := hm
  rcases hz : (m.cd != 0) with _ | _
  · have e0 : m.left = (m.t.length : Int) - m.nx := if_pos (by simpa using hz)
    rw [e0]
    clear e0
    go_enter Try.func103, Try.ntmps103
    go_wp2
    go_ret
    exact ⟨rfl, (Below.refl _ _).alloc (Nat.le_refl _) _⟩
  · have e0 : m.left = 0 := if_neg (by simpa using hz)
    rw [e0]
    clear e0
    go_enter Try.func103, Try.ntmps103
    go_wp2
    go_ret
    exact ⟨rfl, (Below.refl _ _).alloc (Nat.le_refl _) _⟩

set_option maxRecDepth 100000 in
theorem rfail_any (m : Rd) (c p : Int) (w : World) : Calls Try.prog 101 #[rdV m, .int .i64 c, .int .i64 p] w fun e w' => e = .returned (rdV (m.fail c p)) ∧ Below w.heap.size w w' := by
  by_cases hc : m.cd = 0 ∧ c ≠ 0
  · have e0 : m.fail c p = { m with cd := c, pl := p } := if_pos hc
    have hz : (m.cd == 0) = true := by simpa using hc.1
    have hz2 : (c != 0) = true := by simpa using hc.2
    rw [e0]
    clear e0 hc
    go_enter Try.func101, Try.ntmps101
    go_wp2
    exact end_cell rfl rfl rfl (at_a2 _ _ _ _) Try.underlying103 rfl info_ref01In ⟨rfl, ((Below.refl _ _).alloc (Nat.le_refl _) _).alloc (by simp) _⟩
  · have e0 : m.fail c p = m := if_neg hc
    rw [e0]
    clear e0
    rcases hz : (m.cd == 0) with _ | _
    · clear hc
      go_enter Try.func101, Try.ntmps101
      go_wp2
      exact end_cell rfl rfl rfl (at_a2 _ _ _ _) Try.underlying103 rfl info_ref01In ⟨rfl, ((Below.refl _ _).alloc (Nat.le_refl _) _).alloc (by simp) _⟩
    · have hz2 : (c != 0) = false := by simp at hz hc; simp [hc hz]
      clear hc
      go_enter Try.func101, Try.ntmps101
      go_wp2
      exact end_cell rfl rfl rfl (at_a2 _ _ _ _) Try.underlying103 rfl info_ref01In ⟨rfl, ((Below.refl _ _).alloc (Nat.le_refl _) _).alloc (by simp) _⟩

def RTake (m : Rd) (n : Int) (w : World) (e : Ending) (w' : World) : Prop := e = .returned (.tuple #[rdV (m.take n).1, .string ⟨(m.take n).2.toArray⟩]) ∧ Below w.heap.size w w'

set_option maxHeartbeats 400000 in
set_option maxRecDepth 100000 in
theorem rtake_no (m : Rd) (n : Int) (w : World) (hc : ¬ m.cd = 0) : Calls Try.prog 68 #[rdV m, .int .i64 n] w (RTake m n w) := by
  have e0 : m.take n = (m, []) := by simp [Rd.take, hc]
  have hz : (m.cd != 0) = true := by simpa using hc
  unfold RTake
  rw [e0]
  clear e0 hc
  go_enter Try.func68, Try.ntmps68
  go_wp2
  exact end_cell_tmp rfl rfl rfl (at_a2 _ _ _ _) Try.underlying103 rfl info_ref01In ⟨rfl, ((Below.refl _ _).alloc (Nat.le_refl _) _).alloc (by simp) _⟩

set_option maxHeartbeats 1000000 in
set_option maxRecDepth 100000 in
theorem rtake_short (m : Rd) (n : Int) (w : World) (hm : m.Ok) (hc : m.cd = 0) (hn : n < 0 ∨ (m.t.length : Int) - m.nx < n) : Calls Try.prog 68 #[rdV m, .int .i64 n] w (RTake m n w) := by
  obtain ⟨h0, h3, h1, h2⟩ := hm
  have hm : m.Ok := ⟨h0, h3, h1, h2⟩
  have e0 : m.take n = (m.short, []) := by simp [Rd.take, hc, hn]
  have hz : (m.cd != 0) = false := by simpa using hc
  have e1 : m.left = (m.t.length : Int) - m.nx := if_pos hc
  have L := fun w => rleft_any m w hm
  rw [e1] at L
  have HL := Lib.hid L
  have HF : Hid (∀ w, Calls Try.prog 101 #[rdV m, .int .i64 1, .int .i64 (m.bs + m.t.length)] w fun e w' => e = .returned (rdV m.short) ∧ Below w.heap.size w w') := Lib.hid (fun w => rfail_any m 1 (m.bs + m.t.length) w)
  unfold RTake
  rw [e0]
  generalize m.short = ms at *
  clear e0 hc e1 L
  by_cases hn1 : n < 0
  · clear hn
    go_enter Try.func68, Try.ntmps68
    go_wp2_with (go_at_call 101; refine (HF.out _).mono ?_; rintro e w1 ⟨rfl, hb1⟩; have HB1 := Lib.hid (below_a2 hb1); obtain ⟨ha1, ha2⟩ := boxes hb1; obtain ⟨⟨c0, c1, c2, c3, c4⟩, f0, f1, f2, f3, f4⟩ := ha1.all; obtain ⟨⟨d0, d1, d2, d3, d4⟩, g0, g1, g2, g3, g4⟩ := ha2.all; have HA1 := Lib.hid ha1; have HA2 := Lib.hid ha2; clear ha1 ha2)
    exact end_cell_tmp rfl rfl rfl (store5 HA2.out rfl) Try.underlying103 rfl info_ref01In ⟨rfl, by repeat (first | with_reducible refine Below.setCell ?_ (by simp) _ | with_reducible exact HB1.out)⟩
  · have hn2 : (m.t.length : Int) - m.nx < n := by omega
    clear hn
    go_enter Try.func68, Try.ntmps68
    go_wp2_with (first | (go_at_call 103; refine (HL.out _).mono ?_; rintro e w1 ⟨rfl, hb1⟩; have HB1 := Lib.hid (below_a2 hb1); obtain ⟨ha1, ha2⟩ := boxes hb1; obtain ⟨⟨c0, c1, c2, c3, c4⟩, f0, f1, f2, f3, f4⟩ := ha1.all; obtain ⟨⟨d0, d1, d2, d3, d4⟩, g0, g1, g2, g3, g4⟩ := ha2.all; have HA1 := Lib.hid ha1; have HA2 := Lib.hid ha2; clear ha1 ha2) | (go_at_call 101; refine (HF.out _).mono ?_; rintro e w2 ⟨rfl, hb2⟩; have HB2 := Lib.hid (nextB HB1.out hb2); obtain ⟨⟨c0, c1, c2, c3, c4⟩, f0, f1, f2, f3, f4⟩ := (HA1.out.below hb2).all; obtain ⟨⟨d0, d1, d2, d3, d4⟩, g0, g1, g2, g3, g4⟩ := (HA2.out.below hb2).all))
    exact end_cell_tmp rfl rfl rfl (store5 (HA2.out.below hb2) rfl) Try.underlying103 rfl info_ref01In ⟨rfl, by repeat (first | with_reducible refine Below.setCell ?_ (by simp) _ | with_reducible exact HB2.out)⟩

set_option maxHeartbeats 1000000 in
set_option maxRecDepth 100000 in
theorem rtake_yes (m : Rd) (n : Int) (w : World) (hm : m.Ok) (hc : m.cd = 0) (hn1 : ¬ n < 0) (hn2 : ¬ (m.t.length : Int) - m.nx < n) : Calls Try.prog 68 #[rdV m, .int .i64 n] w (RTake m n w) := by
  obtain ⟨h0, h3, h1, h2⟩ := hm
  have hm : m.Ok := ⟨h0, h3, h1, h2⟩
  obtain ⟨k, rfl⟩ := Int.eq_ofNat_of_zero_le (show 0 ≤ n by omega)
  have e0 : m.take (k : Int) = ({ m with nx := m.nx + k }, (m.t.drop m.nx).take k) := by
    unfold Rd.take
    rw [if_pos hc, if_neg (by omega)]
    simp
  have hz : (m.cd != 0) = false := by simpa using hc
  have e1 : m.left = (m.t.length : Int) - m.nx := if_pos hc
  have L := fun w => rleft_any m w hm
  rw [e1] at L
  have HL := Lib.hid L
  unfold RTake
  rw [e0]
  have e9 : rdV ({ m with nx := m.nx + k }, (m.t.drop m.nx).take k).1 = .agg #[.string ⟨m.t.toArray⟩, .int .i64 ((m.nx : Int) + k), .int .i64 m.bs, .int .i64 m.cd, .int .i64 m.pl] := by simp [rdV]
  rw [e9]
  clear e9
  have hk : (k : Int) ≤ (m.t.length : Int) - m.nx := by omega
  have hk2 : (m.nx : Int) + k ≤ m.t.length := by omega
  clear e0 hc e1 L hn1 hn2
  go_enter Try.func68, Try.ntmps68
  go_wp2_with (first | (go_at_call 103; refine (HL.out _).mono ?_; rintro e w1 ⟨rfl, hb1⟩; have HB1 := Lib.hid (below_a2 hb1); obtain ⟨ha1, ha2⟩ := boxes hb1; obtain ⟨⟨c0, c1, c2, c3, c4⟩, f0, f1, f2, f3, f4⟩ := ha1.all; obtain ⟨⟨d0, d1, d2, d3, d4⟩, g0, g1, g2, g3, g4⟩ := ha2.all; have HA1 := Lib.hid ha1; have HA2 := Lib.hid ha2; clear ha1 ha2))
  refine end_cell_tmp rfl rfl rfl (store5 ((heap_set_other _ (by omega)).trans HA2.out) rfl) Try.underlying103 rfl info_ref01In ⟨?_, by repeat (first | with_reducible refine Below.setCell ?_ (by simp) _ | with_reducible exact HB1.out)⟩
  show Ending.returned (.tuple #[_, .string ⟨(List.take (m.nx + k - m.nx) (List.drop m.nx m.t)).toArray⟩]) = _
  rw [Nat.add_sub_cancel_left]

theorem rtake_any (m : Rd) (n : Int) (w : World) (hm : m.Ok) : Calls Try.prog 68 #[rdV m, .int .i64 n] w fun e w' => e = .returned (.tuple #[rdV (m.take n).1, .string ⟨(m.take n).2.toArray⟩]) ∧ Below w.heap.size w w' := by
  by_cases hc : m.cd = 0
  · by_cases hn : n < 0 ∨ (m.t.length : Int) - m.nx < n
    · exact rtake_short m n w hm hc hn
    · rw [not_or] at hn
      exact rtake_yes m n w hm hc hn.1 hn.2
  · exact rtake_no m n w hc
end Go.Proofs.Ytmnmonmbdgedbaa
