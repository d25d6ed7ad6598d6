/- Layer 18 (packet): pages as the document has them, the law's Same, walked. -/
import Derived.Test.YtmnmonmbdgedbaaPk2
import Derived.Test.YtmnmonmbdgedbaaPage12
namespace Go.Proofs.Ytmnmonmbdgedbaa
open Go.RowKit
set_option linter.unusedVariables false
set_option linter.unusedSimpArgs false

theorem pk_cells {w : World} {a : Option Addr} {n : Nat} {L : List Pg} (h : RecsAt w a n 6 (L.map pgR)) (k : Nat) (hk : k < L.length) : ∃ b off, a = some ⟨b, off, none⟩ ∧ b < w.heap.size ∧
    w.cell? ⟨b, off + k * 6, none⟩ = some (.int .u8 L[k].fl.toNat) ∧ w.cell? ⟨b, off + k * 6 + 1, none⟩ = some (.int .u64 L[k].po) ∧ w.cell? ⟨b, off + k * 6 + 2, none⟩ = some (.int .u32 L[k].se) ∧
    w.cell? ⟨b, off + k * 6 + 3, none⟩ = some (.int .u32 L[k].nu) ∧ w.cell? ⟨b, off + k * 6 + 4, none⟩ = some (.string ⟨L[k].la.toArray⟩) ∧ w.cell? ⟨b, off + k * 6 + 5, none⟩ = some (.string ⟨L[k].bo.toArray⟩) := by
  have hn := h.1
  rcases h.2.2 with h0 | ⟨b, off, ha, hb, hc⟩
  · simp at hn; omega
  · have hk' : k < (L.map pgR).length := by simpa using hk
    have e : (L.map pgR)[k] = pgR L[k] := by simp
    have k0 := hc k hk' 0 (by decide)
    have k1 := hc k hk' 1 (by decide)
    have k2 := hc k hk' 2 (by decide)
    have k3 := hc k hk' 3 (by decide)
    have k4 := hc k hk' 4 (by decide)
    have k5 := hc k hk' 5 (by decide)
    rw [e] at k0 k1 k2 k3 k4 k5
    exact ⟨b, off, ha, hb, k0, k1, k2, k3, k4, k5⟩
theorem info_rpage : (Try.prog.info? 81).map (fun i => (i.zero, i.size, i.bytes)) = some (some (.agg #[.int .i64 0, .int .u64 0, .int .u64 0, .int .u64 0, .string ⟨#[]⟩, .string ⟨#[]⟩]), 6, 64) := by kernel_rfl
theorem one_rgR (x : Pg) : ∀ u ∈ rgR x, u.oneCell' = true := by
  intro u hu
  simp only [rgR, List.mem_cons, List.not_mem_nil, or_false] at hu
  rcases hu with rfl | rfl | rfl | rfl | rfl | rfl <;> rfl
theorem pk_recs_atv {w : World} {base e size n cap : Nat} {a : Option Addr} {L : List (List Value)} (h : Recs w base e size (.slice a n cap) L) : RecsAt w a n size L := by
  obtain ⟨a', cap', hv, _, hr⟩ := h.at
  obtain ⟨rfl, rfl, rfl⟩ : a = a' ∧ n = L.length ∧ cap = cap' := by simpa using hv
  exact hr
theorem pk_grown {w wr w' : World} {v : Value} {B : Nat} (hB : Below B w wr) (hg : wr.grownBy w' v.ownBlock) (hv : ∀ k, v.ownBlock = some k → B ≤ k) (hs : B ≤ wr.heap.size) : Below B w w' := by
  refine ⟨hg.os.trans hB.os, hg.tape.trans hB.tape, hg.output.trans hB.output, Nat.le_trans hB.size hg.size, fun k hk => ?_⟩
  refine (hg.block k (Nat.lt_of_lt_of_le hk hs) ?_).trans (hB.block k hk)
  intro e
  have := hv k e.symm
  omega
set_option maxHeartbeats 2000000 in
set_option maxRecDepth 100000 in
theorem pof_any (a : Option Addr) (n cap : Nat) (ps : List Pg) (w : World) (hs : Hid (RecsAt w a n 6 (ps.map pgR))) (hn : n ≤ 1000000) (hok : Hid (∀ p ∈ ps, p.Ok)) :
    Calls Try.prog 38 #[.slice a n cap] w fun e w' => ∃ u, e = .returned u ∧ Recs w' w.heap.size 81 6 u (ps.map rgR) ∧ Below w.heap.size w w' := by
  have HL : Hid (ps.length = n) := Lib.hid (by simpa using hs.out.1)
  have OF : Hid (∀ (p : Pg), p.Ok → ∀ (w : World), Calls Try.prog 43 #[.agg #[.int .u8 p.fl.toNat, .int .u64 p.po, .int .u32 p.se, .int .u32 p.nu, .string ⟨p.la.toArray⟩, .string ⟨p.bo.toArray⟩]] w fun e w' => e = .returned (.agg #[.int .i64 p.fl.toNat, .int .u64 p.po, .int .u64 p.se, .int .u64 p.nu, .string ⟨p.la.toArray⟩, .string ⟨p.bo.toArray⟩]) ∧ Below w.heap.size w w') := Lib.hid (fun p hp w => of_any p w hp)
  have hni : (n : Int) ≤ 1000000 := by omega
  go_enter Try.func38, Try.ntmps38
  go_wp2
  go_loopw [8, 3] (fun i u wr => ∃ (j : Nat), j ≤ n ∧ i = .int .i64 j ∧ Hid (Recs wr w.heap.size 81 6 u ((ps.take j).map rgR)) ∧ Hid (Below w.heap.size w wr)) (fun i _ _ => n - (intOf i).toNat)
  case atStart => exact ⟨0, by omega, rfl, Lib.hid (Recs.nil _ _ _ _), Lib.hid (Below.refl _ _)⟩
  case round =>
    obtain ⟨j, hj, rfl, V, K⟩ := hrel
    have HS := Lib.hid (hs.out.below K.out)
    by_cases hlt : j < n
    · have g0 : (j : Int) < n := by omega
      have hjl : j < ps.length := by rw [HL.out]; exact hlt
      obtain ⟨b, off, rfl, hbb, c0, c1, c2, c3, c4, c5⟩ := pk_cells HS.out j hjl
      have HV := Lib.hid (show (ps.take (j + 1)).map rgR = (ps.take j).map rgR ++ [rgR ps[j]] by rw [List.take_succ_eq_append_getElem hjl, List.map_append]; rfl)
      have HP := Lib.hid (hok.out ps[j] (List.getElem_mem hjl))
      have HL1 : Hid (((ps.take j).map rgR).length = j) := Lib.hid (by simp; omega)
      generalize ps[j] = p at *
      go_upto_region 5 with (fail)
      have P := Lib.hid (at_a0 wr #[.int .u8 p.fl.toNat, .int .u64 p.po, .int .u32 p.se, .int .u32 p.nu, .string ⟨p.la.toArray⟩, .string ⟨p.bo.toArray⟩] 66)
      have hB := (Below.refl wr.heap.size wr).alloc (Nat.le_refl _) (.cells #[.int .u8 p.fl.toNat, .int .u64 p.po, .int .u32 p.se, .int .u32 p.nu, .string ⟨p.la.toArray⟩, .string ⟨p.bo.toArray⟩] 66)
      replace V := Lib.hid (V.out.below hB)
      replace K := Lib.hid (nextB K.out hB)
      clear hB HS c0 c1 c2 c3 c4 c5
      generalize wr.alloc (.cells #[.int .u8 p.fl.toNat, .int .u64 p.po, .int .u32 p.se, .int .u32 p.nu, .string ⟨p.la.toArray⟩, .string ⟨p.bo.toArray⟩] 66) = w1 at *
      generalize wr.heap.size = pb at *
      obtain ⟨x0, x1, x2, x3, x4, x5⟩ := cells6 (P.out)
      have hBS := K.out.size
      go_wp2_with (first | (go_at_call 43; (with_reducible refine (OF.out p HP.out _).mono ?_); rintro e w3 ⟨rfl, hb3⟩; replace V := Lib.hid (V.out.below hb3); replace K := Lib.hid (nextB K.out hb3); clear hb3; have hBS3 := K.out.size) | (at_builtin; refine wpList_pushR w3 rfl (.tmp 12) (.tmp 15) 72 rfl w.heap.size 81 6 64 _ Try.underlying72 info_rpage rfl (by decide) (by decide) _ ((ps.take j).map rgR) (rgR p) _ (by rfl) rfl (one_rgR p) (by rfl) V.out (by rfl) (by rw [HL1.out]; omega) (by omega) _ ?_; intro v5 w5 hr5 hg5; have hl5 := V.out.lt; have V5 := Lib.hid hr5; have K5 := Lib.hid (pk_grown K.out hg5 (fun k e => (hl5 k e).1) (by omega)); clear hl5 hr5 hg5))
      refine ⟨⟨j + 1, by omega, by simp, Lib.hid (by rw [HV.out]; exact V5.out), K5⟩, by simp [intOf]; omega⟩
    · have g0 : ¬ (j : Int) < n := by omega
      have hf : ps.take j = ps := List.take_of_length_le (by rw [HL.out]; omega)
      rw [hf] at V
      go_wp2
      go_ret
      exact ⟨_, rfl, V.out, K.out⟩
end Go.Proofs.Ytmnmonmbdgedbaa
