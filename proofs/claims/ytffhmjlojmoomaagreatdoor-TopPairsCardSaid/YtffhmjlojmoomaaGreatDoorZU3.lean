/- Layer 2 (point): Text, Points, walked; AppendRune onto a buffer; ranges over texts. | Layer 2 (point): Points, walked. -/
import Derived.Test.YtffhmjlojmoomaaGreatDoorZU1
import Derived.Test.YtffhmjlojmoomaaGreatDoorZOct2

namespace Go.Proofs.YtffhmjlojmoomaaGreatDoor
open Go.RowKit
set_option linter.unusedVariables false
set_option linter.unusedSimpArgs false

theorem rlen_any (p : Nat) (hp : Sc p) (w : World) : Calls Tryz.prog 71 #[.int .i32 p] w fun e w' => e = .returned (.int .i64 ((encR p).length : Nat)) ∧ w = w' := by
  refine (Tryz.utf8_RuneLen (p : Int) w).mono fun e w' ⟨he, hw⟩ => ⟨?_, hw.symm⟩
  rw [he]
  congr 2
  unfold Lib.runeLen
  unfold Sc at hp
  by_cases h1 : p < 128
  · rw [encR_one h1, if_neg (by omega), if_pos (by omega)]; rfl
  · by_cases h2 : p < 2048
    · rw [encR_two (by omega) h2, if_neg (by omega), if_neg (by omega), if_pos (by omega)]; rfl
    · by_cases h3 : p < 65536
      · rw [encR_three (by omega), if_neg (by omega), if_neg (by omega), if_neg (by omega), if_neg (by omega), if_pos (by omega)]; rfl
      · rw [encR_four (by omega) (by omega), if_neg (by omega), if_neg (by omega), if_neg (by omega), if_neg (by omega), if_neg (by omega), if_pos (by omega)]; rfl
theorem grown_alloc {w0 w w' : World} {B : Nat} {o : Obj} {v : Value} (hB : Below B w0 w) (hs : B ≤ w.heap.size) (hg : (w.alloc o).grownBy w' v.ownBlock) (hv : ∀ k, v.ownBlock = some k → B ≤ k) : Below B w0 w' := by
  have h1 := hB.alloc hs o
  refine ⟨hg.os.trans h1.os, hg.tape.trans h1.tape, hg.output.trans h1.output, Nat.le_trans h1.size hg.size, fun k hk => ?_⟩
  refine (hg.block k (by simp; omega) ?_).trans (h1.block k hk)
  intro e
  have := hv k e.symm
  omega
theorem grown_block {w w' : World} {o : Obj} {row : Option Nat} {b : Nat} {x : Obj} (hg : (w.alloc o).grownBy w' row) (h : w.heap[b]? = some x) (hne : some b ≠ row) : w'.heap[b]? = some x := by
  have hb := (Array.getElem?_eq_some_iff.1 h).1
  exact (hg.block b (by simp; omega) hne).trans ((heap_alloc_old w o hb).trans h)
theorem apR_any {B : Nat} {v : Value} {l : List UInt8} {w : World} (h : Buf w B 5 v l) (hl : l.length ≤ 1000000000) (hB : B ≤ w.heap.size) (p : Nat) (hp : p ≤ 2147483647) :
    Calls Tryz.prog 55 #[v, .int .i32 p] w fun e w' => ∃ v', e = .returned v' ∧ Buf w' B 5 v' (l ++ encR p) ∧ ∃ o, (w.alloc o).grownBy w' v.ownBlock := by
  refine (Tryz.utf8_AppendRune_plain B v l.length (cellsOf l) (p : Int) (by omega) (by omega) w h (by omega) hB).mono fun e w' ⟨v', he, ho, hg⟩ => ⟨v', he, ?_, hg⟩
  unfold Buf
  have e1 : cellsOf (l ++ encR p) = cellsOf l ++ Lib.runeCells (p : Int) := by
    rw [← Lib.byteCells_encodeRune]
    simp [cellsOf, encR, Lib.byteCells]
  have e2 : (l ++ encR p).length = l.length + (Lib.runeCells (p : Int)).length := by
    rw [List.length_append, Lib.runeCells_length]
    rfl
  rw [e1, e2]
  exact ho
/-- signs that lie in a slice's cells -/
def RunesAt (w : World) (a : Option Addr) (n : Nat) (ps : List Nat) : Prop :=
  ps.length = n ∧ (n = 0 ∨ ∃ b off, a = some ⟨b, off, none⟩ ∧ b < w.heap.size ∧ ∀ i (h : i < ps.length), w.cell? ⟨b, off + i, none⟩ = some (.int .i32 (ps[i] : Nat)))
theorem RunesAt.below {w w' : World} {a : Option Addr} {n : Nat} {ps : List Nat} (h : RunesAt w a n ps) (hb : Below w.heap.size w w') : RunesAt w' a n ps := by
  refine ⟨h.1, ?_⟩
  rcases h.2 with h0 | ⟨b, off, rfl, hlt, hc⟩
  · exact .inl h0
  · exact .inr ⟨b, off, rfl, Nat.lt_of_lt_of_le hlt hb.size, fun i h => by rw [hb.cell (by exact hlt)]; exact hc i h⟩
theorem RunesAt.get {w : World} {a : Option Addr} {n : Nat} {ps : List Nat} (h : RunesAt w a n ps) (j : Nat) (hj : j < ps.length) : ∃ b off, a = some ⟨b, off, none⟩ ∧ b < w.heap.size ∧ w.cell? ⟨b, off + j, none⟩ = some (.int .i32 (ps[j] : Nat)) := by
  have hn := h.1
  rcases h.2 with h0 | ⟨b, off, ha, hb, hc⟩
  · omega
  · exact ⟨b, off, ha, hb, hc j hj⟩
theorem RunesAt.one (w : World) (p : Nat) (T : TypeId) : RunesAt (w.alloc (.cells #[.int .i32 (p : Nat)] T)) (some ⟨w.heap.size, 0, none⟩) 1 [p] := by
  refine ⟨rfl, .inr ⟨_, _, rfl, by simp, ?_⟩⟩
  intro i h
  obtain rfl : i = 0 := by simpa using h
  exact cell_at (at_a0 _ _ _)
def runR (p : Nat) : List Value := [.int .i32 (p : Nat)]
theorem one_runR (x : Nat) : ∀ u ∈ runR x, u.oneCell' = true := by
  intro u hu
  simp only [runR, List.mem_cons, List.not_mem_nil, or_false] at hu
  rw [hu]; rfl
theorem info_runes : (Tryz.prog.info? 21).map (fun i => (i.zero, i.size, i.bytes)) = some (some (.int .i32 0), 1, 4) := by kernel_rfl
theorem runes_of {w : World} {base e : Nat} {u : Value} {L : List Nat} (h : Recs w base e 1 u (L.map runR)) : ∃ a cap, u = .slice a L.length cap ∧ L.length ≤ cap ∧ RunesAt w a L.length L := by
  obtain ⟨a, cap, hv, hcap, hr⟩ := h.at
  rw [List.length_map] at hv hcap
  refine ⟨a, cap, hv, hcap, rfl, ?_⟩
  rcases hr.2.2 with h0 | ⟨b, off, ha, hb, hc⟩
  · left; simpa using h0
  · right
    refine ⟨b, off, ha, hb, fun i hi => ?_⟩
    have h1 := hc i (by rw [List.length_map]; exact hi) 0 (by decide)
    rw [List.getElem_map] at h1
    simp only [Nat.mul_one, Nat.add_zero] at h1
    rw [h1]
    rfl
theorem encs_take (ps : List Nat) (j : Nat) (h : j < ps.length) : encs (ps.take (j + 1)) = encs (ps.take j) ++ encR ps[j] := by
  rw [List.take_succ_eq_append_getElem h, encs_snoc]
theorem encs_len (ps : List Nat) : (encs ps).length ≤ 4 * ps.length := by
  induction ps with
  | nil => simp [encs]
  | cons p ps ih =>
    have := encR_len p
    rw [encs_cons, List.length_append, List.length_cons]
    omega
set_option maxHeartbeats 2000000 in
set_option maxRecDepth 100000 in
theorem ptext_any (a : Option Addr) (n cap : Nat) (ps : List Nat) (hp : Hid (∀ p ∈ ps, Sc p)) (w : World) (hs : Hid (RunesAt w a n ps)) (hn : n ≤ 1000) :
    Calls Tryz.prog 32 #[.slice a n cap] w fun e w' => e = .returned (.tuple #[.string ⟨(encs ps).toArray⟩, .bool true]) ∧ Below w.heap.size w w' := by
  obtain ⟨i0, hi, hz0, hz1, hz2⟩ := info_parts info_u8'
  have HL : Hid (ps.length = n) := Lib.hid hs.out.1
  have hni : (n : Int) ≤ 1000 := by omega
  go_enter Tryz.func32, Tryz.ntmps32
  go_wp2
  go_loopw [4, 12] (fun z i wr => ∃ (j : Nat), j ≤ n ∧ i = .int .i64 j ∧ z = .int .i64 ((encs (ps.take j)).length : Nat) ∧ (encs (ps.take j)).length ≤ 4 * j ∧ w = wr) (fun _ i _ => n - (intOf i).toNat)
  case atStart => exact ⟨0, by omega, rfl, rfl, by simp [encs], rfl⟩
  case round =>
    obtain ⟨j, hj, rfl, rfl, hb, rfl⟩ := hrel
    by_cases hlt : j < n
    · have g0 : (j : Int) < n := by omega
      have hjl : j < ps.length := by rw [HL.out]; exact hlt
      obtain ⟨b, off, rfl, hbb, hc⟩ := hs.out.get j hjl
      have hsc := hp.out ps[j] (List.getElem_mem hjl)
      have HT := Lib.hid (show (encs (ps.take (j + 1))).length = (encs (ps.take j)).length + (encR ps[j]).length by rw [encs_take ps j hjl, List.length_append])
      have SY := Lib.hid (fun w => scalar_yes ps[j] hsc w)
      have RL := Lib.hid (fun w => rlen_any ps[j] hsc w)
      have hle := (encR_len ps[j]).2
      clear hsc
      generalize ps[j] = p at *
      generalize (encR p).length = m at *
      generalize (encs (ps.take j)).length = x at *
      go_wp2_with (first | (go_at_call 70; (with_reducible refine (SY.out _).mono ?_); rintro e wx ⟨rfl, rfl⟩) | (go_at_call 71; (with_reducible refine (RL.out _).mono ?_); rintro e wx ⟨rfl, rfl⟩))
      exact ⟨⟨j + 1, by omega, by simp, by rw [HT.out]; simp, by rw [HT.out]; omega, by first | rfl | trivial⟩, by simp [intOf]; omega⟩
    · have g0 : ¬ (j : Int) < n := by omega
      have hf : ps.take j = ps := List.take_of_length_le (by rw [HL.out]; omega)
      rw [hf] at hb
      rw [hf]
      clear hf
      obtain ⟨z, hz⟩ : ∃ z, z = (encs ps).length := ⟨_, rfl⟩
      rw [← hz] at hb
      rw [← hz]
      have HZ := Lib.hid hz
      clear hz
      go_upto_region 10 with (at_make; refine wpList_make_own _ rfl _ _ 35 rfl w.heap.size 5 i0 (.int .u8 0) 1 Tryz.underlying35 hi hz0 hz1 _ _ _ z rfl rfl (by omega) (by rw [hz2]; omega) (by unfold maxLen; omega) (Nat.le_refl _) ?_; intro w1 hown hgrow; have V : Hid (Buf w1 w.heap.size 5 (.slice (some ⟨w.heap.size, 0, none⟩) 0 z) []) := Lib.hid hown; have K := Lib.hid ((Below.refl w.heap.size w).grown hgrow (Nat.le_refl _) (by intro k hk; cases hk)); clear hown hgrow)
      go_wp2
      go_loopw [7, 28] (fun v i wr => ∃ (j : Nat), j ≤ n ∧ i = .int .i64 j ∧ Hid (Buf wr w.heap.size 5 v (encs (ps.take j))) ∧ Hid (Below w.heap.size w wr)) (fun _ i _ => n - (intOf i).toNat)
      case atStart => exact ⟨0, by omega, rfl, V, K⟩
      case round =>
        clear V K
        obtain ⟨k, hk, rfl, V, K⟩ := hrel
        have S := Lib.hid (hs.out.below K.out)
        by_cases hkn : k < n
        · have g1 : (k : Int) < n := by omega
          have hkl : k < ps.length := by rw [HL.out]; exact hkn
          obtain ⟨b, off, rfl, hbb, hc⟩ := S.out.get k hkl
          have hsc := hp.out ps[k] (List.getElem_mem hkl)
          have HE := Lib.hid (encs_take ps k hkl)
          have hel := encs_len (ps.take k)
          rw [List.length_take] at hel
          have hks := K.out.size
          have hp9 : ps[k] ≤ 2147483647 := by unfold Sc at hsc; omega
          have AP := Lib.hid (apR_any V.out (by omega) hks ps[k] hp9)
          have l5 := V.out.lt
          have L5 := Lib.hid l5
          clear hsc hel l5
          generalize ps[k] = p at *
          go_wp2_with (go_at_call 55; (with_reducible refine AP.out.mono ?_); rintro e w5 ⟨v5, rfl, hv5, o, hg5⟩; have V5 := Lib.hid hv5; have K5 := Lib.hid (grown_alloc K.out hks hg5 (fun k e => (L5.out k e).1)); clear hv5 hg5)
          exact ⟨⟨k + 1, by omega, by simp, Lib.hid (by rw [HE.out]; exact V5.out), K5⟩, by simp [intOf]; omega⟩
        · have g1 : ¬ (k : Int) < n := by omega
          have hf : ps.take k = ps := List.take_of_length_le (by rw [HL.out]; omega)
          rw [hf] at V
          have hcv := ownsRow_bytes (P := Tryz.prog) (src := 35) (dst := 9) (show World.ownsRow _ _ _ _ _ _ _ from V.out) Tryz.underlying35 Tryz.underlying5 Tryz.underlying9
          clear hf
          go_wp2
          go_ret2
          exact ⟨rfl, K.out⟩
end Go.Proofs.YtffhmjlojmoomaaGreatDoor

namespace Go.Proofs.YtffhmjlojmoomaaGreatDoor
open Go.RowKit
set_option linter.unusedVariables false
set_option linter.unusedSimpArgs false

theorem recs_off {w : World} {base e size pb : Nat} {v : Value} {L : List (List Value)} {C : Array Value} {T : TypeId} {q : Nat × Nat} (h : Recs w base e size v L) (hp : w.heap[pb]? = some (.cells C T q)) (hne : e ≠ T) : v.ownBlock ≠ some pb := by
  rcases h.2.2 with ⟨rfl, _⟩ | ⟨g, cap, cur, rfl, hb, hg, _⟩
  · intro e; cases e
  · intro e
    obtain rfl : g = pb := by simpa [Value.ownBlock] using e
    rw [hg] at hp
    simp only [Option.some.injEq, Obj.cells.injEq] at hp
    exact hne hp.2.1
theorem pk_grown {w wr w' : World} {v : Value} {B : Nat} (hB : Below B w wr) (hg : wr.grownBy w' v.ownBlock) (hv : ∀ k, v.ownBlock = some k → B ≤ k) (hs : B ≤ wr.heap.size) : Below B w w' := by
  refine ⟨hg.os.trans hB.os, hg.tape.trans hB.tape, hg.output.trans hB.output, Nat.le_trans hB.size hg.size, fun k hk => ?_⟩
  refine (hg.block k (Nat.lt_of_lt_of_le hk hs) ?_).trans (hB.block k hk)
  intro e
  have := hv k e.symm
  omega
/-- a text's iterator in block k, behind some signs, ahead of others -/
theorem iter_step {P : Program} (w : World) (k : Nat) (qs : List Nat) (p : Nat) (rs : List Nat) (hp : Sc p) (ty : TypeId) (hk : w.heap[k]? = some (.stringIter ⟨(encs (qs ++ p :: rs)).toArray⟩ (encs qs).length)) :
    (Instr.next (.pointer (some ⟨k, 0, none⟩)) true ty).run P w = .ok (.tuple #[.bool true, .int .i64 ((encs qs).length : Nat), .int .i32 p]) (w.iterAt k ⟨(encs (qs ++ p :: rs)).toArray⟩ ((encs (qs ++ [p])).length)) := by
  have hlt : (encs qs).length < (ByteArray.mk (encs (qs ++ p :: rs)).toArray).size := by
    have h1 := encR_len p
    show _ < (encs (qs ++ p :: rs)).toArray.size
    rw [encs_app, encs_cons]
    simp
    omega
  have h := Lib.run_next_any_at (P := P) w k ⟨(encs (qs ++ p :: rs)).toArray⟩ (encs qs).length ty hk hlt
  have e : Utf8.decode ⟨(encs (qs ++ p :: rs)).toArray⟩ (encs qs).length = (p, (encR p).length) := by
    rw [dec_at, encs_app, List.drop_left, encs_cons, dec_enc hp]
  rw [e] at h
  rw [h, encs_snoc, List.length_append]
theorem iter_end {P : Program} (w : World) (k : Nat) (qs : List Nat) (ty : TypeId) (hk : w.heap[k]? = some (.stringIter ⟨(encs qs).toArray⟩ (encs qs).length)) :
    (Instr.next (.pointer (some ⟨k, 0, none⟩)) true ty).run P w = .ok (.tuple #[.bool false]) w :=
  Lib.run_next_end_at w k _ _ ty hk (by show ¬ _ < (encs qs).toArray.size; simp)
theorem Recs.iterAt {w : World} {B e size : Nat} {v : Value} {L : List (List Value)} (h : Recs w B e size v L) {k : Nat} {s : ByteArray} {pos : Nat} (hk : w.heap[k]? = some (.stringIter s pos)) (pos' : Nat) : Recs (w.iterAt k s pos') B e size v L := by
  refine ⟨h.1, h.2.1, ?_⟩
  rcases h.2.2 with h0 | ⟨g, cap, cur, hv, hb, hg, rest⟩
  · exact .inl h0
  · refine .inr ⟨g, cap, cur, hv, hb, ?_, rest⟩
    rw [Lib.iterAt_other _ _ _ _ _ (fun e => by subst e; rw [hk] at hg; cases hg)]
    exact hg
theorem block_iterAt {w : World} {b k : Nat} {o : Obj} {s : ByteArray} {pos : Nat} (h : w.heap[b]? = some o) (hne : b ≠ k) : (w.iterAt k s pos).heap[b]? = some o := by
  rw [Lib.iterAt_other _ _ _ _ _ hne]; exact h
theorem recs_ne_iter {w : World} {B e size : Nat} {v : Value} {L : List (List Value)} (h : Recs w B e size v L) {k : Nat} {s : ByteArray} {pos : Nat} (hk : w.heap[k]? = some (.stringIter s pos)) : some k ≠ v.ownBlock := by
  rcases h.2.2 with ⟨rfl, _⟩ | ⟨g, cap, cur, rfl, hb, hg, rest⟩
  · simp [Value.ownBlock]
  · intro e
    simp only [Value.ownBlock, Option.some.injEq] at e
    subst e
    rw [hk] at hg
    cases hg
set_option maxHeartbeats 4000000 in
set_option maxRecDepth 100000 in
theorem points_good (ps : List Nat) (hp : Hid (∀ p ∈ ps, Sc p)) (hn : ps.length ≤ 2000000) (w : World) (hT : Hid (Tabs w)) : Calls Tryz.prog 33 #[.string ⟨(encs ps).toArray⟩] w fun e w' =>
    ∃ u, e = .returned (.tuple #[u, .agg #[.int .i64 0, .int .i64 0]]) ∧ Recs w' w.heap.size 21 1 u (ps.map runR) ∧ Below w.heap.size w w' := by
  obtain ⟨i0, hi, hz0, hz1, hz2⟩ := info_parts info_runes
  have hel := encs_len ps
  have SC : Hid (∀ w, Hid (Tabs w) → Calls Tryz.prog 53 #[.string ⟨(encs ps).toArray⟩] w fun e w' => e = .returned (.tuple #[.int .i64 (ps.length : Nat), .agg #[.int .i64 0, .int .i64 0]]) ∧ Below w.heap.size w w') := Lib.hid (fun w hT => (scan_any (encs ps) (by omega) w hT).mono fun e w' ⟨hr, hb⟩ => by
    rcases hr with ⟨qs, h1, h2, h3⟩ | ⟨h1, _⟩
    · have := encs_inj hp.out h1 h2
      subst this
      exact ⟨h3, hb⟩
    · exact absurd ⟨ps, hp.out, rfl⟩ h1)
  have BD := Lib.hid (fun w => bad_any 0 0 w)
  rw [show ((0 : Int) != 0) = false by rfl] at BD
  have F := Lib.hid (at_a0 w #[.int .i64 0, .int .i64 0] 26)
  have K := Lib.hid ((Below.refl w.heap.size w).alloc (Nat.le_refl _) (.cells #[.int .i64 0, .int .i64 0] 26))
  have T := Lib.hid (hT.out.below K.out)
  obtain ⟨rb, hrb⟩ : ∃ rb, rb = w.heap.size := ⟨_, rfl⟩
  go_enter Tryz.func33, Tryz.ntmps33
  go_upto_region 1 with (fail)
  have HZ : (w.alloc (.cells #[.int .i64 0, .int .i64 0] 26)).heap.size = rb + 1 := by rw [hrb]; simp
  generalize w.alloc (.cells #[.int .i64 0, .int .i64 0] 26) = w0 at *
  rw [← hrb] at F
  rw [← hrb]
  have HRB := Lib.hid hrb
  clear hrb
  go_upto_region 2 with (go_at_call 53; (with_reducible refine (SC.out _ T).mono ?_); rintro e w1 ⟨rfl, hb1⟩; have hz1' := hb1.size; replace F := Lib.hid (block_below F.out hb1); replace K := Lib.hid (nextB K.out hb1); clear hb1)
  have G := Lib.hid (at_a0 w1 #[.int .i64 0, .int .i64 0] 26)
  have hB := (Below.refl w1.heap.size w1).alloc (Nat.le_refl _) (.cells #[.int .i64 0, .int .i64 0] 26)
  have hz2' := hB.size
  replace F := Lib.hid (block_below F.out hB)
  replace K := Lib.hid (nextB K.out hB)
  clear hB
  generalize w1.alloc (.cells #[.int .i64 0, .int .i64 0] 26) = w2 at *
  generalize w1.heap.size = gb at *
  obtain ⟨g0, g1⟩ := cells2 (G.out)
  go_upto_region 4 with (go_at_call 7; (with_reducible refine (BD.out _).mono ?_); rintro e w3 ⟨rfl, hb3⟩; have hz3' := hb3.size; replace F := Lib.hid (block_below F.out hb3); replace K := Lib.hid (nextB K.out hb3); clear hb3 g0 g1)
  have hwb : rb + 1 ≤ w3.heap.size := by omega
  go_upto_region 5 with (at_make; refine wpList_make_own _ rfl _ _ 58 rfl (rb + 1) 21 i0 (.int .i32 0) 1 Tryz.underlying58 hi hz0 hz1 _ _ _ ps.length rfl rfl (by omega) (by rw [hz2]; omega) (by unfold maxLen; omega) hwb ?_; intro w4 hown hgrow; have V : Hid (Recs w4 (rb + 1) 21 1 (.slice (some ⟨w3.heap.size, 0, none⟩) 0 ps.length) []) := Lib.hid ⟨by simp, hown⟩; have KG := Lib.hid ((Below.refl w3.heap.size w3).grown hgrow (Nat.le_refl _) (by intro k hk; cases hk)); clear hown hgrow)
  replace F := Lib.hid (block_below F.out KG.out)
  replace K := Lib.hid (nextB K.out KG.out)
  have hz4' := KG.out.size
  clear KG G
  go_upto_region 6 with (fail)
  obtain ⟨ib, hib⟩ : ∃ ib, ib = w4.heap.size := ⟨_, rfl⟩
  have I : Hid ((w4.iter ⟨(encs ps).toArray⟩ 0).heap[ib]? = some (.stringIter ⟨(encs ps).toArray⟩ 0)) := Lib.hid (by rw [hib]; exact World.iter_heap _ _ _)
  have hB : Below w4.heap.size w4 (w4.iter ⟨(encs ps).toArray⟩ 0) := (Below.refl w4.heap.size w4).alloc (Nat.le_refl _) _
  replace F := Lib.hid (block_below F.out hB)
  replace V := Lib.hid (V.out.below hB)
  replace K := Lib.hid (nextB K.out hB)
  rw [← hib]
  have hrbib : rb + 1 ≤ ib := by omega
  clear hB hib
  generalize w4.iter ⟨(encs ps).toArray⟩ 0 = w5 at *
  go_loopw [6] (fun v wr => ∃ (qs rs : List Nat), Hid (ps = qs ++ rs) ∧ qs.length + rs.length = ps.length ∧ Hid (wr.heap[ib]? = some (.stringIter ⟨(encs ps).toArray⟩ (encs qs).length)) ∧ Hid (wr.heap[rb]? = some (.cells #[.int .i64 0, .int .i64 0] 26 (0, 0))) ∧ Hid (Recs wr (rb + 1) 21 1 v (qs.map runR)) ∧ rb + 1 ≤ wr.heap.size ∧ ib < wr.heap.size ∧ Hid (Below w.heap.size w wr)) (fun _ wr => (encs ps).length + 1 - wr.iterPos ib)
  case atStart => exact ⟨[], ps, Lib.hid rfl, by simp, I, F, V, by have := (Array.getElem?_eq_some_iff.1 I.out).1; omega, (Array.getElem?_eq_some_iff.1 I.out).1, K⟩
  case round =>
    clear I F V K
    obtain ⟨qs, rs, HP, hql, I, F, V, hws, his, K⟩ := hrel
    have hwr : w.heap.size ≤ rb := by rw [HRB.out]; exact Nat.le_refl _
    have HW := Lib.hid hwr
    clear hwr
    rcases rs with _ | ⟨p, rs⟩
    · have hps := HP.out
      rw [List.append_nil] at hps
      subst hps
      have hnx : ∀ ty, (Instr.next (.pointer (some ⟨ib, 0, none⟩)) true ty).run Tryz.prog wr = .ok (.tuple #[.bool false]) wr := fun ty => iter_end wr ib ps ty I.out
      obtain ⟨f0, f1⟩ := cells2 (F.out); obtain ⟨ff0, ff1⟩ := frees2 (F.out)
      go_wp2
      refine end_tmp_cell (by rfl) rfl (by rfl) (store2 F.out rfl) Tryz.underlying26 rfl (by kernel_rfl) ?_
      have hne := recs_off V.out F.out (by decide)
      exact ⟨_, rfl, (V.out.base (by have := HW.out; omega)).kept (row := some rb) ((Only.set (b := rb) _).trans (Only.set _)) (.inr hne), (K.out.setCell HW.out _).setCell HW.out _⟩
    · have hsc := hp.out p (by rw [HP.out]; simp)
      have hp9 : (p : Int) ≤ 1114111 := by unfold Sc at hsc; omega
      have hnx : ∀ ty, (Instr.next (.pointer (some ⟨ib, 0, none⟩)) true ty).run Tryz.prog wr = .ok (.tuple #[.bool true, .int .i64 ((encs qs).length : Nat), .int .i32 p]) (wr.iterAt ib ⟨(encs ps).toArray⟩ ((encs (qs ++ [p])).length)) := fun ty => by
        have h := iter_step (P := Tryz.prog) wr ib qs p rs hsc ty (by rw [← HP.out]; exact I.out)
        rw [← HP.out] at h
        exact h
      have I2 := Lib.hid (Lib.iterAt_heap wr ib ⟨(encs ps).toArray⟩ (encs qs).length (encs (qs ++ [p])).length I.out)
      have hri : rb ≠ ib := by omega
      have F2 : Hid ((wr.iterAt ib ⟨(encs ps).toArray⟩ ((encs (qs ++ [p])).length)).heap[rb]? = some (.cells #[.int .i64 0, .int .i64 0] 26 (0, 0))) := Lib.hid (block_iterAt F.out hri)
      have V2 := Lib.hid (V.out.iterAt I.out ((encs (qs ++ [p])).length))
      have K2 := Lib.hid (Lib.below_iterAt K.out (show w.heap.size ≤ ib by have := HW.out; omega) ⟨(encs ps).toArray⟩ ((encs (qs ++ [p])).length))
      have hsz : (wr.iterAt ib ⟨(encs ps).toArray⟩ ((encs (qs ++ [p])).length)).heap.size = wr.heap.size := Lib.iterAt_size _ _ _ _
      have hm1 : (encs qs).length < (encs (qs ++ [p])).length ∧ (encs (qs ++ [p])).length ≤ (encs ps).length := by
        have := encR_len p
        rw [HP.out, encs_snoc, encs_app, encs_cons, List.length_append, List.length_append, List.length_append]
        omega
      have hpos : wr.iterPos ib = (encs qs).length := by unfold World.iterPos; rw [I.out]
      have HM := Lib.hid (show (encs ps).length + 1 - (encs (qs ++ [p])).length < (encs ps).length + 1 - wr.iterPos ib by rw [hpos]; omega)
      have hql2 : qs.length < ps.length := by simp at hql; omega
      clear hsc hm1 hpos I F V K
      go_upto_region 7 with (fail)
      clear hnx
      generalize hw6 : wr.iterAt ib ⟨(encs ps).toArray⟩ ((encs (qs ++ [p])).length) = w6 at *
      clear hw6
      have hws6 : rb + 1 ≤ w6.heap.size := by omega
      have his6 : ib < w6.heap.size := by omega
      clear hsz
      have hne := recs_off V2.out F2.out (by decide)
      have hni := recs_ne_iter V2.out I2.out
      go_wp2_with (at_builtin; refine wpList_pushR w6 rfl (.tmp 24) (.tmp 26) 58 rfl (rb + 1) 21 1 4 _ Tryz.underlying58 info_runes rfl (by decide) (by decide) _ (qs.map runR) (runR p) _ (by rfl) rfl (one_runR _) (by rfl) V2.out (by rfl) (by rw [List.length_map]; omega) (by omega) _ ?_; intro v7 w7 hr7 hg7; have l7 := V2.out.lt; have hz7 := hg7.size; have K7 := Lib.hid (pk_grown K2.out hg7 (fun k e => by have := (l7 k e).1; have := HW.out; omega) (by have := HW.out; omega)); have F7 := Lib.hid ((hg7.block rb (by omega) (fun e => hne e.symm)).trans F2.out); have I7 := Lib.hid ((hg7.block ib (by omega) hni).trans I2.out); have V7 := Lib.hid hr7; clear hr7 hg7 l7)
      refine ⟨⟨qs ++ [p], rs, Lib.hid (by rw [List.append_assoc]; exact HP.out), by simp at hql ⊢; omega, I7, F7, Lib.hid (by rw [List.map_append]; exact V7.out), by omega, by omega, K7⟩, ?_⟩
      have hpos7 : w7.iterPos ib = (encs (qs ++ [p])).length := by unfold World.iterPos; rw [I7.out]
      rw [hpos7]
      exact HM.out
end Go.Proofs.YtffhmjlojmoomaaGreatDoor
