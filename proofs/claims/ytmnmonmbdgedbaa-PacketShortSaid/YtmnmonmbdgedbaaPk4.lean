/- Layer 18 (packet): packets on pages as plain data; slices of texts that a call makes. -/
import Derived.Test.YtmnmonmbdgedbaaPk3
import Derived.Test.YtmnmonmbdgedbaaPk1
namespace Go.Proofs.Ytmnmonmbdgedbaa
open Go.RowKit
set_option linter.unusedVariables false
set_option linter.unusedSimpArgs false

def strR (s : List UInt8) : List Value := [.string ⟨s.toArray⟩]
theorem one_strR (x : List UInt8) : ∀ u ∈ strR x, u.oneCell' = true := by
  intro u hu
  simp only [strR, List.mem_cons, List.not_mem_nil, or_false] at hu
  rw [hu]; rfl
theorem info_strs : (Try.prog.info? 9).map (fun i => (i.zero, i.size, i.bytes)) = some (some (.string ⟨#[]⟩), 1, 16) := by kernel_rfl
/-- a slice of texts that a call makes, as an argument -/
theorem strs_of {w : World} {base e : Nat} {u : Value} {L : List (List UInt8)} (h : Recs w base e 1 u (L.map strR)) : ∃ a n cap, u = .slice a n cap ∧ n = L.length ∧ n ≤ cap ∧ StrsAt w a n L := by
  obtain ⟨a, cap, hv, hcap, hr⟩ := h.at
  refine ⟨a, _, cap, hv, by rw [List.length_map], hcap, ?_⟩
  have hn := hr.1
  rw [List.length_map] at hn ⊢
  refine ⟨rfl, ?_⟩
  rcases hr.2.2 with h0 | ⟨b, off, ha, hb, hc⟩
  · left; simpa using h0
  · right
    refine ⟨b, off, ha, hb, fun i hi => ?_⟩
    have h1 := hc i (by rw [List.length_map]; exact hi) 0 (by decide)
    rw [List.getElem_map] at h1
    simp only [Nat.mul_one, Nat.add_zero] at h1
    rw [h1]
    rfl
/-- pages of laces and bytes, behind so many -/
def pgsS (h : Pg) : Nat → List UInt8 → List UInt8 → Nat → Bool → List Pg
  | 0, _, _, _, _ => []
  | g + 1, laces, body, k, op => if laces = [] then [] else
    ⟨if op then 1 else h.fl &&& 254, if endsB (laces.take 255) = true then h.po else 18446744073709551615, h.se, (h.nu + k) % 4294967296, laces.take 255, body.take (lacesL (laces.take 255))⟩ ::
      pgsS h g (laces.drop 255) (body.drop (lacesL (laces.take 255))) (k + 1) (openB (laces.take 255))
/-- packets on pages -/
def pagesP (h : Pg) (ps : List (List UInt8)) : List Pg :=
  pgsS h ((ps.map (fun p => laceL p.length)).flatten.length + 1) (ps.map (fun p => laceL p.length)).flatten ps.flatten 0 false
theorem pgsS_on {h : Pg} {g : Nat} {laces body : List UInt8} {k : Nat} {op : Bool} (hl : laces ≠ []) : pgsS h (g + 1) laces body k op =
    ⟨if op then 1 else h.fl &&& 254, if endsB (laces.take 255) = true then h.po else 18446744073709551615, h.se, (h.nu + k) % 4294967296, laces.take 255, body.take (lacesL (laces.take 255))⟩ ::
      pgsS h g (laces.drop 255) (body.drop (lacesL (laces.take 255))) (k + 1) (openB (laces.take 255)) := by
  rw [pgsS, if_neg hl]
theorem pgsS_off {h : Pg} {g : Nat} {body : List UInt8} {k : Nat} {op : Bool} : pgsS h g [] body k op = [] := by
  cases g with
  | zero => rfl
  | succ g => rw [pgsS, if_pos rfl]
theorem laces_app (a b : List UInt8) : lacesL (a ++ b) = lacesL a + lacesL b := by
  have key : ∀ (l : List UInt8) (n : Nat), l.foldl (fun n c => n + c.toNat) n = n + l.foldl (fun n c => n + c.toNat) 0 := by
    intro l
    induction l with
    | nil => intro n; rfl
    | cons c l ih =>
      intro n
      rw [List.foldl_cons, List.foldl_cons, ih, ih (0 + c.toNat)]
      omega
  unfold lacesL
  rw [List.foldl_append, key]
theorem laces_rep (q : Nat) : lacesL (List.replicate q 255) = q * 255 := by
  induction q with
  | zero => rfl
  | succ q ih => rw [List.replicate_succ', laces_snoc, ih]; show _ + 255 = _; omega
theorem laces_lace (n : Nat) : lacesL (laceL n) = n := by
  unfold laceL
  rw [laces_snoc, laces_rep, UInt8.toNat_ofNat']
  omega
/-- the laces of packets come to their bytes -/
theorem laces_all (ps : List (List UInt8)) : lacesL (ps.map (fun p => laceL p.length)).flatten = ps.flatten.length := by
  induction ps with
  | nil => rfl
  | cons p ps ih => rw [List.map_cons, List.flatten_cons, laces_app, laces_lace, ih, List.flatten_cons, List.length_append]
end Go.Proofs.Ytmnmonmbdgedbaa
