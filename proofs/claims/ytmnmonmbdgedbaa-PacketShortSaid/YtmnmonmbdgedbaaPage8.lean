/- Layer 17 (page): pages that come in as arguments. -/
import Derived.Test.YtmnmonmbdgedbaaPage7
import Derived.OpenShut
import Derived.Deep.Slices
import Derived.Laws.StructEq
namespace Go.Proofs.Ytmnmonmbdgedbaa
open Go.RowKit Go.ChangeShapes Go.WideShapes Go.Deep
set_option linter.unusedVariables false

section
variable {H : Type} {enc : TypeId × Value → H} {w : World} {base : Nat} {spare : Nat → Bool} {held : Bool} {fuel : Nat} {cs : List Value} {x : DataW H × List MemPlace}
theorem wf_u8 {n : Int} (h : (Lit.int .u8 n).wf = true) : ∃ c : UInt8, n = c.toNat := by
  have h2 : 0 ≤ n ∧ n < 256 := by
    simp [Lit.wf, IntKind.bits, IntKind.signed, IntKind.min, IntKind.max] at h
    omega
  exact ⟨UInt8.ofNat n.toNat, by rw [UInt8.toNat_ofNat']; omega⟩
theorem wf_u32 {n : Int} (h : (Lit.int .u32 n).wf = true) : ∃ c : Nat, n = c ∧ c < 4294967296 := by
  have h2 : 0 ≤ n ∧ n < 4294967296 := by
    simp [Lit.wf, IntKind.bits, IntKind.signed, IntKind.min, IntKind.max] at h
    omega
  exact ⟨n.toNat, by omega, by omega⟩
theorem wf_u64 {n : Int} (h : (Lit.int .u64 n).wf = true) : ∃ c : Nat, n = c ∧ c < 18446744073709551616 := by
  have h2 : 0 ≤ n ∧ n < 18446744073709551616 := by
    simp [Lit.wf, IntKind.bits, IntKind.signed, IntKind.min, IntKind.max] at h
    omega
  exact ⟨n.toNat, by omega, by omega⟩
set_option maxRecDepth 100000 in
theorem head_cells {c0 c1 c2 c3 : Value} (h : DataW.trod enc Try.prog w base spare held fuel 64 [c0, c1, c2, c3] = some x) :
    ∃ (fl : UInt8) (po se nu : Nat), c0 = .int .u8 fl.toNat ∧ c1 = .int .u64 po ∧ c2 = .int .u32 se ∧ c3 = .int .u32 nu ∧ po < 18446744073709551616 ∧ se < 4294967296 ∧ nu < 4294967296 := by
  obtain ⟨xs, n, rfl, hx, hl, hxl, hfs⟩ := DataW.trod_struct Try.underlying64 h
  have hxl4 : xs.length = 4 := hxl
  match xs, hxl4 with
  | [y0, y1, y2, y3], _ =>
    have h0 : DataW.trod enc Try.prog w base spare held n 5 [c0] = some y0 := hfs 0 _ rfl
    have h1 : DataW.trod enc Try.prog w base spare held n 61 [c1] = some y1 := hfs 1 _ rfl
    have h2 : DataW.trod enc Try.prog w base spare held n 62 [c2] = some y2 := hfs 2 _ rfl
    have h3 : DataW.trod enc Try.prog w base spare held n 62 [c3] = some y3 := hfs 3 _ rfl
    obtain ⟨n0, e0, _, k0⟩ := DataW.trod_int Try.underlying5 h0
    obtain ⟨n1, e1, _, k1⟩ := DataW.trod_int Try.underlying61 h1
    obtain ⟨n2, e2, _, k2⟩ := DataW.trod_int Try.underlying62 h2
    obtain ⟨n3, e3, _, k3⟩ := DataW.trod_int Try.underlying62 h3
    obtain ⟨a0, rfl⟩ := wf_u8 k0
    obtain ⟨a1, rfl, g1⟩ := wf_u64 k1
    obtain ⟨a2, rfl, g2⟩ := wf_u32 k2
    obtain ⟨a3, rfl, g3⟩ := wf_u32 k3
    exact ⟨a0, a1, a2, a3, by simpa using e0, by simpa using e1, by simpa using e2, by simpa using e3, g1, g2, g3⟩
set_option maxRecDepth 100000 in
theorem page_cells (hlen : cs.length = 6) (h : DataW.trod enc Try.prog w base spare held fuel 66 cs = some x) :
    ∃ q : Pg, cs = pgR q ∧ q.Ok ∧ q.la.length ≤ maxLen ∧ q.bo.length ≤ maxLen := by
  match cs, hlen with
  | [c0, c1, c2, c3, c4, c5], _ =>
    obtain ⟨xs, n, rfl, hx, hl, hxl, hfs⟩ := DataW.trod_struct Try.underlying66 h
    have hxl3 : xs.length = 3 := hxl
    match xs, hxl3 with
    | [y0, y1, y2], _ =>
      have h0 : DataW.trod enc Try.prog w base spare held n 64 [c0, c1, c2, c3] = some y0 := hfs 0 _ rfl
      have h1 : DataW.trod enc Try.prog w base spare held n 9 [c4] = some y1 := hfs 1 _ rfl
      have h2 : DataW.trod enc Try.prog w base spare held n 9 [c5] = some y2 := hfs 2 _ rfl
      obtain ⟨fl, po, se, nu, rfl, rfl, rfl, rfl, g1, g2, g3⟩ := head_cells h0
      obtain ⟨s4, e4, _, k4⟩ := DataW.trod_string Try.underlying9 h1
      obtain ⟨s5, e5, _, k5⟩ := DataW.trod_string Try.underlying9 h2
      obtain ⟨l4, rfl⟩ := bytes_eta s4
      obtain ⟨l5, rfl⟩ := bytes_eta s5
      obtain rfl : c4 = .string ⟨l4.toArray⟩ := by simpa using e4
      obtain rfl : c5 = .string ⟨l5.toArray⟩ := by simpa using e5
      exact ⟨⟨fl, po, se, nu, l4, l5⟩, rfl, ⟨g1, g2, g3⟩, by simpa [ByteArray.size] using k4, by simpa [ByteArray.size] using k5⟩
end
section
variable {H : Type} {enc : TypeId × Value → H} {w : World} {base : Nat} {spare : Nat → Bool} {held : Bool} {v : Value} {d : DataW H} {p : List MemPlace} {r : Reach} {b0 : Nat}
set_option maxRecDepth 100000 in
theorem open_page (hv : Value.okWide Try.prog w r b0 66 v) (h : DataW.Trod enc Try.prog w base spare held 66 v d p) :
    ∃ q : Pg, v = pgV q ∧ q.Ok ∧ q.la.length ≤ maxLen ∧ q.bo.length ≤ maxLen := by
  obtain ⟨cs, rfl, hsz⟩ := okWide_struct Try.underlying66 hv
  have h6 : cs.size = 6 := hsz.trans (by kernel_rfl)
  obtain ⟨fuel, hf⟩ := h
  obtain ⟨q, hq, rest⟩ := page_cells (cs := cs.toList) (by simpa using h6) (by simpa [Value.cells] using hf)
  exact ⟨q, by unfold pgV; rw [← hq], rest⟩
end
theorem pg_eq (p q : Pg) : p = q ↔ p.fl = q.fl ∧ p.po = q.po ∧ p.se = q.se ∧ p.nu = q.nu ∧ p.la = q.la ∧ p.bo = q.bo := by
  cases p; cases q; simp
theorem str_beq (a b : List UInt8) : (ByteArray.toList ⟨a.toArray⟩ == ByteArray.toList ⟨b.toArray⟩) = decide (a = b) := by
  rw [ByteArray.toList_eq, ByteArray.toList_eq, Bool.eq_iff_iff]
  simp
def pgEq (p q : Pg) : Bool := p.fl == q.fl && (p.po == q.po && (p.se == q.se && (p.nu == q.nu && (p.la == q.la && p.bo == q.bo))))
theorem pgEq_iff (p q : Pg) : pgEq p q = true ↔ p = q := by
  rw [pg_eq]
  simp [pgEq]
theorem pgEq_self (p : Pg) : pgEq p p = true := (pgEq_iff p p).2 rfl
theorem pgEq_no {p q : Pg} (h : p ≠ q) : pgEq p q = false := by
  rw [Bool.eq_false_iff]
  intro e
  exact h ((pgEq_iff p q).1 e)
set_option maxHeartbeats 1000000 in
set_option maxRecDepth 100000 in
theorem run_eql_page (p q : Pg) (w : World) : (binOp .eql 66 (pgV p) (pgV q)).run Try.prog w = .ok (.bool (pgEq p q)) w := by
  unfold pgV pgR pgEq
  have e1 : (((p.fl.toNat : Nat) : Int) = ((q.fl.toNat : Nat) : Int)) = (p.fl = q.fl) := propext ⟨fun h => by rw [u8_eq]; omega, fun h => by rw [h]⟩
  have e2 : (((p.po : Nat) : Int) = ((q.po : Nat) : Int)) = (p.po = q.po) := propext ⟨fun h => by omega, fun h => by rw [h]⟩
  have e3 : (((p.se : Nat) : Int) = ((q.se : Nat) : Int)) = (p.se = q.se) := propext ⟨fun h => by omega, fun h => by rw [h]⟩
  have e4 : (((p.nu : Nat) : Int) = ((q.nu : Nat) : Int)) = (p.nu = q.nu) := propext ⟨fun h => by omega, fun h => by rw [h]⟩
  go_simp
  by_cases h1 : p.fl = q.fl
  · by_cases h2 : p.po = q.po
    · by_cases h3 : p.se = q.se
      · by_cases h4 : p.nu = q.nu
        · by_cases h5 : p.la = q.la
          · by_cases h6 : p.bo = q.bo <;> simp [h1, h2, h3, h4, h5, h6]
          · simp [h1, h2, h3, h4, h5]
        · simp [h1, h2, h3, h4]
      · simp [h1, h2, h3]
    · simp [h1, h2]
  · simp [h1]
end Go.Proofs.Ytmnmonmbdgedbaa
