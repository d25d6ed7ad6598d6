/- Layer 17 (page): page.Pages, walked. -/
import Derived.Test.YtaifdkklijpjnaaPage8
import Derived.Test.YtaifdkklijpjnaaRecs
import Derived.Deep.LoopGhost
namespace Go.Proofs.Ytaifdkklijpjnaa
open Go.RowKit
set_option linter.unusedVariables false

/-- pages read, one behind the other: the reader behind them, the pages, their places -/
def pagesS : Nat → Rd → List Pg → List Int → Rd × List Pg × List Int
  | 0, m, ps, pl => (m, ps, pl)
  | f + 1, m, ps, pl => if (pgParse m).2.2 = true then pagesS f (pgParse m).1 (ps ++ [(pgParse m).2.1]) (pl ++ [m.bs + m.nx]) else ((pgParse m).1, ps, pl)
def intR (n : Int) : List Value := [.int .i64 n]
theorem end_ttc {P : Program} {fn : Func} {R : Ending → World → Prop} {a : Act} {w : World} {p u u2 : Tmp} {ty t : TypeId} {b : Nat} {C : Array Value} {d : TypeDesc}
    (h : fn.results = #[.tmp u, .tmp u2, .cell p ty]) (hd0 : a.defers = []) (hp : a.tmps.getD p undef = .pointer (some ⟨b, 0, none⟩)) (hg : w.heap[b]? = some (.cells C t (0, 0)))
    (hu : P.underlying ty = some d) (hd : (match d with | .struct _ | .array _ _ => true | _ => false) = true) (hi : (P.info? ty).map (·.size) = some C.size)
    (hR : R (.returned (.tuple #[a.tmps.getD u undef, a.tmps.getD u2 undef, .agg C])) w) : bodyPost P fn R .ret a w := by
  refine bodyPost_ret (v := .tuple #[a.tmps.getD u undef, a.tmps.getD u2 undef, .agg C]) ?_ hd0 hR
  have hp' : a.tmps[p]?.getD undef = .pointer (some ⟨b, 0, none⟩) := by simpa using hp
  simp only [results, h]
  simp [hp', asAddr, run_loadVar_row w b t ty C (0, 0) d hg hu hd hi]
theorem recs_apart {w : World} {b1 b2 e1 e2 s1 s2 : Nat} {v1 v2 : Value} {L1 L2 : List (List Value)} (h1 : Recs w b1 e1 s1 v1 L1) (h2 : Recs w b2 e2 s2 v2 L2) (hne : e1 ≠ e2) : v1.ownBlock = none ∨ v1.ownBlock ≠ v2.ownBlock := by
  rcases h1.2.2 with ⟨rfl, _⟩ | ⟨g, cap, cur, rfl, hb, hg, _⟩
  · exact .inl rfl
  · right
    rcases h2.2.2 with ⟨rfl, _⟩ | ⟨g2, cap2, cur2, rfl, hb2, hg2, _⟩
    · intro e; cases e
    · intro e
      obtain rfl : g = g2 := by simpa [Value.ownBlock] using e
      rw [hg] at hg2
      simp only [Option.some.injEq, Obj.cells.injEq] at hg2
      exact hne hg2.2.1
theorem block_grown {w w' : World} {b base : Nat} {o : Obj} {v : Value} (h : w.heap[b]? = some o) (hg : w.grownBy w' v.ownBlock) (hv : ∀ k, v.ownBlock = some k → base ≤ k) (hb : b < base) : w'.heap[b]? = some o :=
  (hg.block b (Array.getElem?_eq_some_iff.1 h).1 (fun e => by have := hv b e.symm; omega)).trans h
theorem Only.grown {w wr w' : World} {b : Nat} {v : Value} (h : Only b w wr) (hg : wr.grownBy w' v.ownBlock) (hv : ∀ k, v.ownBlock = some k → w.heap.size ≤ k) : Only b w w' :=
  ⟨hg.os.trans h.os, hg.tape.trans h.tape, hg.output.trans h.output, Nat.le_trans h.size hg.size, fun k hk hne => (hg.block k (Nat.lt_of_lt_of_le hk h.size) (fun e => by have := hv k e.symm; omega)).trans (h.block k hk hne)⟩
theorem Recs.only {w w' : World} {base e size b : Nat} {v : Value} {L : List (List Value)} (h : Recs w base e size v L) (k : Only b w w') (hb : b < base) : Recs w' base e size v L := by
  refine h.kept (row := some b) k ?_
  by_cases hn : v.ownBlock = none
  · exact .inl hn
  · right
    intro e
    have := (h.lt b e).1
    omega
theorem info_page : (Try.prog.info? 27).map (fun i => (i.zero, i.size, i.bytes)) = some (some (.agg #[.int .u8 0, .int .u64 0, .int .u32 0, .int .u32 0, .string ⟨#[]⟩, .string ⟨#[]⟩]), 6, 56) := by kernel_rfl
theorem info_int : (Try.prog.info? 3).map (fun i => (i.zero, i.size, i.bytes)) = some (some (.int .i64 0), 1, 8) := by kernel_rfl
theorem one_pgR (x : Pg) : ∀ u ∈ pgR x, u.oneCell' = true := by
  intro u hu
  simp only [pgR, List.mem_cons, List.not_mem_nil, or_false] at hu
  rcases hu with rfl | rfl | rfl | rfl | rfl | rfl <;> rfl
theorem one_intR (x : Int) : ∀ u ∈ intR x, u.oneCell' = true := by
  intro u hu
  simp only [intR, List.mem_cons, List.not_mem_nil, or_false] at hu
  rw [hu]; rfl
theorem grown_belowR {R : Nat} {w wr w' : World} {v : Value} (hB : Below R w wr) (hg : wr.grownBy w' v.ownBlock) (hv : ∀ k, v.ownBlock = some k → R ≤ k) (hR : R ≤ wr.heap.size) : Below R w w' := by
  refine ⟨hg.os.trans hB.os, hg.tape.trans hB.tape, hg.output.trans hB.output, Nat.le_trans hB.size hg.size, fun k hk => ?_⟩
  refine (hg.block k (Nat.lt_of_lt_of_le hk hR) ?_).trans (hB.block k hk)
  intro e
  have := hv k e.symm
  omega
def PagesSay (t : List UInt8) (w : World) (e : Ending) (w' : World) : Prop :=
  Below w.heap.size w w' ∧
  (((pagesS (t.length + 1) (Rd.new t 0) [] []).1.cd = 0 ∧ ∃ v1 v2, e = .returned (.tuple #[v1, v2, .agg #[.int .i64 0, .int .i64 0]]) ∧ Recs w' w.heap.size 27 6 v1 ((pagesS (t.length + 1) (Rd.new t 0) [] []).2.1.map pgR) ∧ Recs w' w.heap.size 3 1 v2 ((pagesS (t.length + 1) (Rd.new t 0) [] []).2.2.map intR)) ∨
   ((pagesS (t.length + 1) (Rd.new t 0) [] []).1.cd ≠ 0 ∧ e = .returned (.tuple #[.slice none 0 0, .slice none 0 0, .agg #[.int .i64 (pagesS (t.length + 1) (Rd.new t 0) [] []).1.cd, .int .i64 (pagesS (t.length + 1) (Rd.new t 0) [] []).1.pl]])))
theorem parse_on {m : Rd} (hm : m.Ok) (h : (pgParse m).2.2 = true) : (pgParse m).1.t = m.t ∧ (pgParse m).1.bs = m.bs ∧ m.nx + 27 ≤ (pgParse m).1.nx ∧ (pgParse m).1.nx ≤ m.t.length ∧ (pgParse m).1.Ok := by
  obtain ⟨_, _, h1, _, h3⟩ := parse_sound m (pgParse m).1 (pgParse m).2.1 hm.1 (by rw [← h])
  have hl := print_len (pgParse m).2.1
  rw [h1] at h3 ⊢
  refine ⟨rfl, rfl, ?_, h3, h3, hm.2⟩
  show m.nx + 27 ≤ m.nx + (printL (pgParse m).2.1).length
  omega

set_option maxHeartbeats 4000000 in
set_option maxRecDepth 100000 in
theorem pages_any (t : List UInt8) (w : World) (ht : t.length ≤ 1000000) : Calls Try.prog 22 #[.string ⟨t.toArray⟩] w (PagesSay t w) := by
  have RD := Lib.hid (fun w => read_any t w)
  go_enter Try.func22, Try.ntmps22
  go_upto_region 4 with (go_at_call 14; (with_reducible refine (RD.out _).mono ?_); rintro e w1 ⟨rfl, hr1, hb1⟩; have R1 : Hid (RdAt w1 (w.heap.size + 1) (Rd.new t 0)) := Lib.hid (by simpa using hr1); have K1 := Lib.hid (below_a1 hb1); have F1 := Lib.hid (block_below (at_a0 w _ _) hb1); clear hr1 hb1)
  generalize hR : w.heap.size = R at *
  have HRR := Lib.hid hR
  clear hR
  have hw1 : R + 1 < w1.heap.size := R1.out.lt
  have HS0 := Lib.hid (rfl : pagesS (t.length + 1) (Rd.new t 0) [] [] = pagesS (t.length + 1) (Rd.new t 0) [] [])
  have hm0 : (Rd.new t 0).Ok := new_ok t 0 (by omega) (by decide)
  obtain ⟨res, hres⟩ : ∃ r, r = pagesS (t.length + 1) (Rd.new t 0) [] [] := ⟨_, rfl⟩
  have HRES := Lib.hid hres
  go_loopg [5, 6] (t.length + 1) (fun gk v1 v2 wr => ∃ (m : Rd) (ps : List Pg) (pl : List Int), m.Ok ∧ m.t.length ≤ 1000000 ∧ m.t.length - m.nx < gk ∧ ps.length ≤ m.nx ∧ pl.length = ps.length ∧ Hid (pagesS gk m ps pl = res) ∧ Hid (RdAt wr (R + 1) m) ∧ Hid (Recs wr (R + 2) 27 6 v1 (ps.map pgR)) ∧ Hid (Recs wr (R + 2) 3 1 v2 (pl.map intR)) ∧ Hid (wr.heap[R]? = some (.cells #[.int .i64 0, .int .i64 0] 32 (0, 0))) ∧ Hid (Below R w wr))
  case atStart => exact ⟨Rd.new t 0, [], [], hm0, ht, by show t.length - 0 < _; omega, Nat.zero_le _, rfl, Lib.hid hres.symm, R1, Lib.hid (Recs.nil _ _ _ _), Lib.hid (Recs.nil _ _ _ _), F1, K1⟩
  case round =>
    obtain ⟨m, ps, pl, hm, hmt, hgk, hps, hpl, HA, HM, HV1, HV2, HF, HB⟩ := hrel
    have HPL := Lib.hid hpl
    clear hres R1 K1 F1 HS0 hm0 RD hpl
    obtain ⟨g, rfl⟩ : ∃ g, gk = g + 1 := ⟨gk - 1, by omega⟩
    have AT := Lib.hid (fun w h => at_any (R + 1) m w h hm)
    have PA := Lib.hid (fun w h => parse_any (R + 1) m w h hm)
    have hon := fun h => parse_on hm h
    obtain ⟨pm, hpm⟩ : ∃ x, x = pgParse m := ⟨_, rfl⟩
    have hA := HA.out
    rw [pagesS] at hA
    rw [← hpm] at hA PA hon
    clear hpm HA
    obtain ⟨m', np, ok⟩ := pm
    simp only at hA PA hon
    unfold ParseSays pgV pgR at PA
    have hbs := HM.out.lt
    rcases ok with _ | _
    · rw [if_neg (by decide)] at hA
      have HA := Lib.hid hA
      clear hA hon
      have FA := Lib.hid (fun w h => fault_any (R + 1) m' w h)
      obtain ⟨c, hc⟩ : ∃ c, c = m'.cd := ⟨_, rfl⟩
      obtain ⟨q, hq⟩ : ∃ q, q = m'.pl := ⟨_, rfl⟩
      rw [← hc, ← hq] at FA
      have BD := Lib.hid (fun w => bad_any c q w)
      have HC := Lib.hid hc
      have HQ := Lib.hid hq
      clear hc hq
      by_cases hcd : c = 0
      · subst hcd
        rw [show ((0 : Int) != 0) = false by rfl] at BD
        go_wp2_with (first | (go_at_call 44; (with_reducible refine (AT.out _ HM.out).mono ?_); rintro e w2 ⟨rfl, rfl⟩) | (go_at_call 13; (with_reducible refine (PA.out _ HM.out).mono ?_); rintro e w3 ⟨rfl, hr3, ho3⟩; have R3 := Lib.hid hr3; have F3 := Lib.hid (block_below (block_only HF.out ho3 (by omega)) (((Below.refl _ _).alloc (Nat.le_refl _) _) : Below _ w3 (w3.alloc (.cells #[.int .u8 np.fl.toNat, .int .u64 np.po, .int .u32 np.se, .int .u32 np.nu, .string ⟨np.la.toArray⟩, .string ⟨np.bo.toArray⟩] 27)))); have V3 := Lib.hid ((HV1.out.only ho3 (by omega)).alloc (.cells #[.int .u8 np.fl.toNat, .int .u64 np.po, .int .u32 np.se, .int .u32 np.nu, .string ⟨np.la.toArray⟩, .string ⟨np.bo.toArray⟩] 27)); have U3 := Lib.hid ((HV2.out.only ho3 (by omega)).alloc (.cells #[.int .u8 np.fl.toNat, .int .u64 np.po, .int .u32 np.se, .int .u32 np.nu, .string ⟨np.la.toArray⟩, .string ⟨np.bo.toArray⟩] 27)); have hz3 := R3.out.lt; have K3 := Lib.hid ((HB.out.trans (ho3.below (Nat.le_succ _) (by omega))).alloc (by omega) (.cells #[.int .u8 np.fl.toNat, .int .u64 np.po, .int .u32 np.se, .int .u32 np.nu, .string ⟨np.la.toArray⟩, .string ⟨np.bo.toArray⟩] 27)); clear hr3 ho3) | (go_at_call 39; (with_reducible refine (FA.out _ (R3.out.alloc _)).mono ?_); rintro e w4 ⟨rfl, hb4⟩; have F4 := Lib.hid (block_below (block_below F3.out hb4) (((Below.refl _ _).alloc (Nat.le_refl _) _) : Below _ w4 (w4.alloc (.cells #[.int .i64 0, .int .i64 q] 32)))); have V4 := Lib.hid ((V3.out.below hb4).alloc (.cells #[.int .i64 0, .int .i64 q] 32)); have U4 := Lib.hid ((U3.out.below hb4).alloc (.cells #[.int .i64 0, .int .i64 q] 32)); have hz4 : R + 1 < w4.heap.size := by { have := hb4.size; simp at this; omega }; have K4 := Lib.hid ((K3.out.trans (hb4.mono (by simp; omega))).alloc (by omega) (.cells #[.int .i64 0, .int .i64 q] 32)); clear hb4) | (go_at_call 12; (with_reducible refine (BD.out _).mono ?_); rintro e w5 ⟨rfl, hb5⟩; have F5 := Lib.hid (block_below F4.out hb5); have T5 := Lib.hid (block_below (at_a0 w4 #[.int .i64 0, .int .i64 q] 32) hb5); have V5 := Lib.hid (V4.out.below hb5); have U5 := Lib.hid (U4.out.below hb5); have K5 := Lib.hid (K4.out.trans (hb5.mono (by simp; omega))); have c0 := cell_at (j := 0) F5.out; have c1 := cell_at (j := 1) F5.out; have cf0 := free_at (j := 0) F5.out; have cf1 := free_at (j := 1) F5.out; simp only [List.getElem?_toArray, List.getElem?_cons_zero, List.getElem?_cons_succ] at c0 c1; have d0 := cell_at (j := 0) T5.out; have d1 := cell_at (j := 1) T5.out; simp only [List.getElem?_toArray, List.getElem?_cons_zero, List.getElem?_cons_succ] at d0 d1; clear hb5))
        refine end_ttc rfl rfl rfl (store2 F5.out rfl) Try.underlying32 rfl (by kernel_rfl) ⟨?_, .inl ⟨?_, u5, u6, rfl, ?_, ?_⟩⟩
        · rw [HRR.out]
          exact (K5.out.setCell (Nat.le_refl _) _).setCell (Nat.le_refl _) _
        · rw [← HRES.out, ← HA.out]
          exact HC.out.symm
        · rw [← HRES.out, ← HA.out, HRR.out]
          exact ((V5.out.only (Only.set _) (by omega)).only (Only.set (b := R) _) (by omega)).base (by omega)
        · rw [← HRES.out, ← HA.out, HRR.out]
          exact ((U5.out.only (Only.set _) (by omega)).only (Only.set (b := R) _) (by omega)).base (by omega)
      · have HCD := Lib.hid hcd
        rw [show (c != 0) = true by simpa using hcd] at BD
        clear hcd
        go_upto_region 13 with (first | (go_at_call 44; (with_reducible refine (AT.out _ HM.out).mono ?_); rintro e w2 ⟨rfl, rfl⟩) | (go_at_call 13; (with_reducible refine (PA.out _ HM.out).mono ?_); rintro e w3 ⟨rfl, hr3, ho3⟩; have R3 := Lib.hid hr3; have F3 := Lib.hid (block_below (block_only HF.out ho3 (by omega)) (((Below.refl _ _).alloc (Nat.le_refl _) _) : Below _ w3 (w3.alloc (.cells #[.int .u8 np.fl.toNat, .int .u64 np.po, .int .u32 np.se, .int .u32 np.nu, .string ⟨np.la.toArray⟩, .string ⟨np.bo.toArray⟩] 27)))); have V3 := Lib.hid ((HV1.out.only ho3 (by omega)).alloc (.cells #[.int .u8 np.fl.toNat, .int .u64 np.po, .int .u32 np.se, .int .u32 np.nu, .string ⟨np.la.toArray⟩, .string ⟨np.bo.toArray⟩] 27)); have U3 := Lib.hid ((HV2.out.only ho3 (by omega)).alloc (.cells #[.int .u8 np.fl.toNat, .int .u64 np.po, .int .u32 np.se, .int .u32 np.nu, .string ⟨np.la.toArray⟩, .string ⟨np.bo.toArray⟩] 27)); have hz3 := R3.out.lt; have K3 := Lib.hid ((HB.out.trans (ho3.below (Nat.le_succ _) (by omega))).alloc (by omega) (.cells #[.int .u8 np.fl.toNat, .int .u64 np.po, .int .u32 np.se, .int .u32 np.nu, .string ⟨np.la.toArray⟩, .string ⟨np.bo.toArray⟩] 27)); clear hr3 ho3) | (go_at_call 39; (with_reducible refine (FA.out _ (R3.out.alloc _)).mono ?_); rintro e w4 ⟨rfl, hb4⟩; have F4 := Lib.hid (block_below (block_below F3.out hb4) (((Below.refl _ _).alloc (Nat.le_refl _) _) : Below _ w4 (w4.alloc (.cells #[.int .i64 c, .int .i64 q] 32)))); have V4 := Lib.hid ((V3.out.below hb4).alloc (.cells #[.int .i64 c, .int .i64 q] 32)); have U4 := Lib.hid ((U3.out.below hb4).alloc (.cells #[.int .i64 c, .int .i64 q] 32)); have hz4 : R + 1 < w4.heap.size := by { have := hb4.size; simp at this; omega }; have K4 := Lib.hid ((K3.out.trans (hb4.mono (by simp; omega))).alloc (by omega) (.cells #[.int .i64 c, .int .i64 q] 32)); clear hb4) | (go_at_call 12; (with_reducible refine (BD.out _).mono ?_); rintro e w5 ⟨rfl, hb5⟩; have F5 := Lib.hid (block_below F4.out hb5); have T5 := Lib.hid (block_below (at_a0 w4 #[.int .i64 c, .int .i64 q] 32) hb5); have V5 := Lib.hid (V4.out.below hb5); have U5 := Lib.hid (U4.out.below hb5); have K5 := Lib.hid (K4.out.trans (hb5.mono (by simp; omega))); have c0 := cell_at (j := 0) F5.out; have c1 := cell_at (j := 1) F5.out; have cf0 := free_at (j := 0) F5.out; have cf1 := free_at (j := 1) F5.out; simp only [List.getElem?_toArray, List.getElem?_cons_zero, List.getElem?_cons_succ] at c0 c1; have d0 := cell_at (j := 0) T5.out; have d1 := cell_at (j := 1) T5.out; simp only [List.getElem?_toArray, List.getElem?_cons_zero, List.getElem?_cons_succ] at d0 d1; clear hb5))
        go_region
        go_wp2
        refine end_ttc rfl rfl rfl (store2 (show (World.drew w5).heap[R]? = _ from F5.out) rfl) Try.underlying32 rfl (by kernel_rfl) ⟨?_, .inr ⟨?_, ?_⟩⟩
        · rw [HRR.out]
          exact (K5.out.drew.setCell (Nat.le_refl _) _).setCell (Nat.le_refl _) _
        · rw [← HRES.out, ← HA.out]
          show m'.cd ≠ 0
          rw [← HC.out]
          exact HCD.out
        · rw [← HRES.out, ← HA.out]
          show _ = Ending.returned (.tuple #[.slice none 0 0, .slice none 0 0, .agg #[.int .i64 m'.cd, .int .i64 m'.pl]])
          rw [← HC.out, ← HQ.out]
          rfl
    · rw [if_pos rfl] at hA
      have HA := Lib.hid hA
      obtain ⟨ht1, hb1, hn1, hn2, hok⟩ := hon rfl
      clear hA hon
      have hmnx := hm.1
      have hpl2 : ((ps.length : Int) == 1048576) = false := by simp; omega
      have hap := recs_apart HV2.out HV1.out (by decide)
      have HAP := Lib.hid hap
      obtain ⟨a1, cap1, hv1, hcap1, _⟩ := HV1.out.at
      rw [List.length_map] at hv1
      subst hv1
      have HT1 := Lib.hid ht1
      have HB1 := Lib.hid hb1
      clear hap hcap1 ht1 hb1
      go_wp2_with (first | (go_at_call 44; (with_reducible refine (AT.out _ HM.out).mono ?_); rintro e w2 ⟨rfl, rfl⟩) | (go_at_call 13; (with_reducible refine (PA.out _ HM.out).mono ?_); rintro e w3 ⟨rfl, hr3, ho3⟩; have R3 := Lib.hid (InAt.alloc hr3 (.cells #[.int .u8 np.fl.toNat, .int .u64 np.po, .int .u32 np.se, .int .u32 np.nu, .string ⟨np.la.toArray⟩, .string ⟨np.bo.toArray⟩] 27)); have F3 := Lib.hid (block_below (block_only HF.out ho3 (by omega)) (((Below.refl _ _).alloc (Nat.le_refl _) _) : Below _ w3 (w3.alloc (.cells #[.int .u8 np.fl.toNat, .int .u64 np.po, .int .u32 np.se, .int .u32 np.nu, .string ⟨np.la.toArray⟩, .string ⟨np.bo.toArray⟩] 27)))); have V3 := Lib.hid ((HV1.out.only ho3 (by omega)).alloc (.cells #[.int .u8 np.fl.toNat, .int .u64 np.po, .int .u32 np.se, .int .u32 np.nu, .string ⟨np.la.toArray⟩, .string ⟨np.bo.toArray⟩] 27)); have U3 := Lib.hid ((HV2.out.only ho3 (by omega)).alloc (.cells #[.int .u8 np.fl.toNat, .int .u64 np.po, .int .u32 np.se, .int .u32 np.nu, .string ⟨np.la.toArray⟩, .string ⟨np.bo.toArray⟩] 27)); have hz3 := hr3.lt; have K3 := Lib.hid ((HB.out.trans (ho3.below (Nat.le_succ _) (by omega))).alloc (by omega) (.cells #[.int .u8 np.fl.toNat, .int .u64 np.po, .int .u32 np.se, .int .u32 np.nu, .string ⟨np.la.toArray⟩, .string ⟨np.bo.toArray⟩] 27)); clear hr3 ho3) | (at_builtin; refine wpList_pushR (w3.alloc (.cells #[.int .u8 np.fl.toNat, .int .u64 np.po, .int .u32 np.se, .int .u32 np.nu, .string ⟨np.la.toArray⟩, .string ⟨np.bo.toArray⟩] 27)) rfl (.tmp 29) (.tmp 31) 50 rfl (R + 2) 27 6 56 _ Try.underlying50 info_page rfl (by decide) (by decide) _ (ps.map pgR) (pgR np) _ (by rfl) rfl (one_pgR _) (by rfl) V3.out (by show Value.slice (some ⟨w3.heap.size + 1, 0, none⟩) 1 1 = _; simp) (by simp; omega) (by simp; omega) _ ?_; intro v4 w4 hr4 hg4; have hl4 := V3.out.lt; have V4 := Lib.hid hr4; have U4 := Lib.hid (U3.out.kept hg4 HAP.out); have F4 := Lib.hid (block_grown F3.out hg4 (fun j e => (hl4 j e).1) (by omega)); have R4 := Lib.hid (block_grown R3.out hg4 (fun j e => (hl4 j e).1) (by omega)); have hz4 : R + 2 ≤ w4.heap.size := by { have := hg4.size; simp at this; omega }; have K4 := Lib.hid (grown_belowR K3.out hg4 (fun j e => by have := (hl4 j e).1; omega) (by simp; omega)); clear hl4 hr4 hg4) | (at_builtin; refine wpList_pushR w4 rfl (.tmp 33) (.tmp 35) 51 rfl (R + 2) 3 1 8 _ Try.underlying51 info_int rfl (by decide) (by decide) _ (pl.map intR) (intR (m.bs + m.nx)) _ (by rfl) rfl (one_intR _) (by rfl) U4.out (by rfl) (by rw [List.length_map, HPL.out]; omega) hz4 _ ?_; intro v5 w5 hr5 hg5; have hl5 := U4.out.lt; have U5 := Lib.hid hr5; have V5 := Lib.hid (V4.out.kept hg5 (recs_apart V4.out U4.out (by decide))); have F5 := Lib.hid (block_grown F4.out hg5 (fun j e => (hl5 j e).1) (by omega)); have R5 := Lib.hid (block_grown R4.out hg5 (fun j e => (hl5 j e).1) (by omega)); have K5 := Lib.hid (grown_belowR K4.out hg5 (fun j e => by have := (hl5 j e).1; omega) (by omega)); clear hl5 hr5 hg5))
      go_roundg g
      case measure => omega
      case rel =>
        refine ⟨m', ps ++ [np], pl ++ [m.bs + m.nx], hok, by rw [HT1.out]; exact hmt, by rw [HT1.out]; omega, by rw [List.length_append]; simp; omega, by rw [List.length_append, List.length_append, HPL.out]; rfl, HA, R5, ?_, ?_, F5, K5⟩
        · rw [List.map_append]; exact V5
        · rw [List.map_append]; exact U5
end Go.Proofs.Ytaifdkklijpjnaa
