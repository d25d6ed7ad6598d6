/- Layer 4 (run): Over, walked. | Layer 4, 5: tables as functions of their codes; the tables of pieces. | Layer 5 (single): the tables of the four sets, walked. -/
import Derived.Test.YtffhmjlojmoomaaGreatDoorZU25
import Derived.Shelf.SlicesE.Clone
import Derived.Maps.AppendAt

namespace Go.Proofs.YtffhmjlojmoomaaGreatDoor
open Go.RowKit
set_option linter.unusedVariables false
set_option linter.unusedSimpArgs false

/-- 'l = append(l, one)', and where the new slice lies -/
theorem wpList_pushAtR {P : Program} (wr : World) {ops : Array Oper} {rest : List Oper} {o : Oper} {a : Act} {Q : Exit → Act → World → Prop} (hgd : o.guard = none) (s x : Operand) (t : TypeId)
    (ho : o.op = .call { callee := .builtin .append, args := #[s, x], argTypes := #[t, t] })
    (base e size bytes : Nat) (z : Value) (ht : P.underlying t = some (.slice e)) (hinfo : (P.info? e).map (fun i => (i.zero, i.size, i.bytes)) = some (some z, size, bytes)) (hzs : z.cells.size = size) (hsz : 0 < size) (hby : bytes ≤ 1000)
    (v : Value) (L : List (List Value)) (r : List Value) (C : Array Value) (hC : C = r.toArray) (hr : r.length = size) (h1 : ∀ u ∈ r, u.oneCell' = true) (hs : a.eval s = v) (hbuf : Recs wr base e size v L) (hx : a.eval x = .slice (some ⟨wr.heap.size, 0, none⟩) 1 1)
    (hlen : L.length ≤ 1000000000) (hbase : base ≤ wr.heap.size) (E : TypeId)
    (h : ∀ v' w', Recs w' base e size v' (L ++ [r]) → wr.grownBy w' v.ownBlock → (v'.ownBlock = v.ownBlock ∨ v'.ownBlock = some (wr.heap.size + 1)) → wpList P ops Q rest (a.put o.dst v') w') :
    wpList P ops Q (o :: rest) a (wr.alloc (.cells C E)) := by
  obtain ⟨i, hi, hz0, hz1, hz2⟩ := info_parts hinfo
  subst hC
  refine wpList_append_own_at _ hgd s x t ho base e i z size bytes ht hi hz0 hz1 hz2 hzs hsz v L.length L.flatten hs (World.ownsRow.alloc hbuf.2 _) ⟨wr.heap.size, 0, none⟩ 1 1 r hx (by omega) ?_ h1 ?_ ?_ ?_ ?_
  · intro j u hj
    have : ((⟨wr.heap.size, 0, none⟩ : Addr).add j) = ⟨wr.heap.size, j, none⟩ := by rw [Go.WideShapes.add_plain, Nat.zero_add]
    rw [this, cell_at (at_a0 _ _ _)]
    simpa using hj
  · unfold maxLen; omega
  · have : (L.length + 1) * bytes ≤ 1000000001 * 1000 := Nat.mul_le_mul (by omega) hby
    omega
  · simp; omega
  · intro v' w' hown hg _ hloc
    refine h v' w' ⟨?_, ?_⟩ ⟨hg.os, hg.tape, hg.output, by have := hg.size; simp at this; omega, fun k hk hne => (hg.block k (by simp; omega) hne).trans (heap_alloc_old wr _ hk)⟩ (by simpa using hloc)
    · intro q hq
      rcases List.mem_append.1 hq with hq | hq
      · exact hbuf.1 q hq
      · obtain rfl : q = r := by simpa using hq
        exact hr
    · rw [List.flatten_append, List.length_append]
      simpa using hown
theorem row_cells {w : World} {b off n : Nat} {S : List Rv} (h : RecsAt w (some ⟨b, off, none⟩) n 4 (S.map rvR)) (k : Nat) (hk : k < S.length) :
    w.cell? ⟨b, off + k * 4, none⟩ = some (.int .i64 S[k].fr) ∧ w.cell? ⟨b, off + k * 4 + 1, none⟩ = some (.int .i64 S[k].ct) ∧ w.cell? ⟨b, off + k * 4 + 2, none⟩ = some (.int .i32 S[k].tp) ∧ w.cell? ⟨b, off + k * 4 + 3, none⟩ = some (.slice S[k].sa S[k].sg.length S[k].cp) ∧ b < w.heap.size := by
  have hl : S.length = n := by simpa using h.1
  rcases h.2.2 with h0 | ⟨b', off', ha, hb, hc⟩
  · omega
  · injection ha with ha
    injection ha with ha1 ha2
    subst ha1 ha2
    have hc' : ∀ j, j < 4 → w.cell? ⟨b, off + (k * 4 + j), none⟩ = (rvR S[k])[j]? := fun j hj => by rw [hc k (by simpa using hk) j hj]; simp
    exact ⟨hc' 0 (by decide), hc' 1 (by decide), hc' 2 (by decide), hc' 3 (by decide), hb⟩
theorem clone_any (S : List Rv) (b off cap : Nat) (w : World) (hs : RecsAt w (some ⟨b, off, none⟩) S.length 4 (S.map rvR)) (h1 : 1 ≤ S.length) (hn : S.length ≤ 3000000) :
    Calls Tryz.prog 111 #[.slice (some ⟨b, off, none⟩) S.length cap] w fun e w' => ∃ v, e = .returned v ∧ Recs w' w.heap.size 108 4 v (S.map rvR) ∧ Below w.heap.size w w' := by
  obtain ⟨i0, hi, hz0, hz1, hz2⟩ := info_parts info_row
  have hfl : (S.map rvR).flatten.length = S.length * 4 := by
    rw [flat_size (size := 4) (fun r hr => by obtain ⟨q, -, rfl⟩ := List.mem_map.1 hr; rfl), List.length_map]
  have hcell : ∀ i (h : i < (S.map rvR).length) t, t < 4 → w.cell? ⟨b, off + (i * 4 + t), none⟩ = (S.map rvR)[i][t]? := by
    rcases hs.2.2 with h0 | ⟨b', off', ha, hb, hc⟩
    · omega
    · injection ha with ha
      injection ha with ha1 ha2
      subst ha1 ha2
      exact hc
  have h := AnyE.slices_Clone (P := Tryz.prog) Tryz.laysCL i0 _ 4 48 hi hz0 hz1 hz2 rfl (by decide) (fun w => Tryz.sizeOf108 w) b off S.length cap (S.map rvR).flatten w hfl (by unfold maxLen; omega) (by omega) (by
    intro j u hj
    have hjl : j < S.length * 4 := by
      rcases Nat.lt_or_ge j (S.length * 4) with h | h
      · exact h
      · rw [List.getElem?_eq_none (by omega)] at hj; cases hj
    obtain ⟨i, t, e, ht, hil⟩ : ∃ i t, j = i * 4 + t ∧ t < 4 ∧ i < S.length := ⟨j / 4, j % 4, by omega, by omega, by omega⟩
    subst e
    rw [flat_get (size := 4) (fun r hr => by obtain ⟨q, -, rfl⟩ := List.mem_map.1 hr; rfl) i t (by rw [List.length_map]; exact hil) ht] at hj
    exact (hcell i (by rw [List.length_map]; exact hil) t ht).trans hj) (by
    intro u hu
    obtain ⟨l, hl, hul⟩ := List.mem_flatten.1 hu
    obtain ⟨q, -, rfl⟩ := List.mem_map.1 hl
    exact one_rvR q u hul)
  refine h.mono ?_
  rintro e w' ⟨v, he, ho, -, hb⟩
  exact ⟨v, he, ⟨fun r hr => by obtain ⟨q, -, rfl⟩ := List.mem_map.1 hr; rfl, by rw [List.length_map]; exact ho⟩, hb⟩
def RvW (w : World) (lo : Nat) (q : Rv) : Prop := RvOk w q ∧ ∀ k, (Value.slice q.sa q.sg.length q.cp).ownBlock = some k → lo ≤ k
theorem partR_w {w : World} {lo : Nat} {r : Rv} {a e : Nat} (h : RvW w lo r) (h1 : r.fr ≤ a) (h2 : a < e) (h3 : e ≤ r.fr + r.ct) (h4 : e ≤ 1048576) : RvW w lo (partR r a e) := by
  refine ⟨partR_ok h.1 h1 h2 h3 h4, fun k hk => ?_⟩
  have h5 := h.2 k
  revert hk
  unfold partR
  split
  · intro hk; cases hk
  · intro hk
    apply h5
    revert hk
    rcases r.sa with _ | ⟨b, off, x⟩
    · exact fun hk => hk
    · exact fun hk => hk
set_option maxHeartbeats 4000000 in
set_option maxRecDepth 100000 in
theorem over_any (A B : List Rv) (v u : Value) (w : World) (hA : Hid (TabDis A)) (hB : Hid (TabDis B)) (hokA : Hid (RowsOk A)) (hokB : Hid (RowsOk B)) (h1 : 1 ≤ A.length) (h2 : 1 ≤ B.length) (hnA : A.length ≤ 3000000) (hnB : B.length ≤ 3000000) (lo : Nat) (hlo : lo ≤ w.heap.size) (ha : Hid (TabIn w lo v A)) (hb : Hid (TabIn w lo u B)) :
    Calls Tryz.prog 73 #[.agg #[v], .agg #[u]] w fun e w' => ∃ v' S, e = .returned (.agg #[v']) ∧ TabIn w' lo v' S ∧ TabDis S ∧ RowsOk S ∧ (∀ c, tabSign S c = match tabSign A c with | some p => some p | none => tabSign B c) ∧ 1 ≤ S.length ∧ Below w.heap.size w w' := by
  obtain ⟨⟨sa, ca, rfl, hca, hsa, hra⟩, -, hla⟩ := ha.out
  obtain ⟨⟨sb, cb, rfl, hcb, hsb, hrb⟩, -, hlb⟩ := hb.out
  have HSA := Lib.hid hsa
  have HSB := Lib.hid hsb
  have HRA : Hid (∀ q ∈ A, RvW w lo q) := Lib.hid (fun q hq => ⟨hra q hq, hla q hq⟩)
  have HRB : Hid (∀ q ∈ B, RvW w lo q) := Lib.hid (fun q hq => ⟨hrb q hq, hlb q hq⟩)
  obtain ⟨ba, oa, rfl⟩ : ∃ b off, sa = some ⟨b, off, none⟩ := by
    rcases hsa.2.2 with h0 | ⟨b, off, h, -⟩
    · omega
    · exact ⟨b, off, h⟩
  obtain ⟨bb, ob, rfl⟩ : ∃ b off, sb = some ⟨b, off, none⟩ := by
    rcases hsb.2.2 with h0 | ⟨b, off, h, -⟩
    · omega
    · exact ⟨b, off, h⟩
  clear hsa hsb hra hrb hla hlb ha hb
  have hni : (A.length : Int) ≤ 3000000 := by omega
  have hnj : (B.length : Int) ≤ 3000000 := by omega
  have K := Lib.hid ((((Below.refl w.heap.size w).alloc (Nat.le_refl _) (.cells #[.slice (some ⟨ba, oa, none⟩) A.length ca] 43)).alloc (by simp) (.cells #[.slice (some ⟨bb, ob, none⟩) B.length cb] 43)).alloc (by simp; omega) (.cells #[.slice none 0 0] 43))
  have X := Lib.hid ((heap_alloc_old ((w.alloc (.cells #[.slice (some ⟨ba, oa, none⟩) A.length ca] 43)).alloc (.cells #[.slice (some ⟨bb, ob, none⟩) B.length cb] 43)) (.cells #[.slice none 0 0] 43) (r := w.heap.size) (by simp; omega)).trans (at_a1 w #[.slice (some ⟨ba, oa, none⟩) A.length ca] 43 (.cells #[.slice (some ⟨bb, ob, none⟩) B.length cb] 43)))
  have Y := Lib.hid (at_a1 (w.alloc (.cells #[.slice (some ⟨ba, oa, none⟩) A.length ca] 43)) #[.slice (some ⟨bb, ob, none⟩) B.length cb] 43 (.cells #[.slice none 0 0] 43))
  have F := Lib.hid (at_a2 (w.alloc (.cells #[.slice (some ⟨ba, oa, none⟩) A.length ca] 43)) #[.slice none 0 0] 43 (.cells #[.slice (some ⟨bb, ob, none⟩) B.length cb] 43))
  rw [show (w.alloc (.cells #[.slice (some ⟨ba, oa, none⟩) A.length ca] 43)).heap.size = w.heap.size + 1 by simp] at Y F
  rw [show w.heap.size + 1 + 1 = w.heap.size + 2 by omega] at F
  have hz : (((w.alloc (.cells #[.slice (some ⟨ba, oa, none⟩) A.length ca] 43)).alloc (.cells #[.slice (some ⟨bb, ob, none⟩) B.length cb] 43)).alloc (.cells #[.slice none 0 0] 43)).heap.size = w.heap.size + 3 := by simp
  obtain ⟨rb, hrb⟩ : ∃ rb, rb = w.heap.size := ⟨_, rfl⟩
  go_enter Tryz.func73, Tryz.ntmps73
  go_upto_region 1 with (fail)
  generalize ((w.alloc (.cells #[.slice (some ⟨ba, oa, none⟩) A.length ca] 43)).alloc (.cells #[.slice (some ⟨bb, ob, none⟩) B.length cb] 43)).alloc (.cells #[.slice none 0 0] 43) = w0 at *
  rw [← hrb] at X Y F hz
  rw [← hrb]
  have HRb := Lib.hid hrb
  have HZ := Lib.hid hz
  clear hrb hz
  have CL := Lib.hid (clone_any A ba oa ca w0 (HSA.out.below K.out) h1 hnA)
  have x0 : w0.cell? ⟨rb, 0, none⟩ = some (.slice (some ⟨ba, oa, none⟩) A.length ca) := by rw [cell_at X.out]; rfl
  go_upto_region 2 with (go_at_call 111; (with_reducible refine CL.out.mono ?_); rintro e w1 ⟨vc, rfl, hv1, hb1⟩; have V := Lib.hid hv1; replace X := Lib.hid (block_below X.out hb1); replace Y := Lib.hid (block_below Y.out hb1); replace F := Lib.hid (block_below F.out hb1); replace K := Lib.hid (nextB K.out hb1); have hz11 := hb1.size; clear hb1 hv1 x0)
  have hz13 : rb + 3 ≤ w1.heap.size := by have := HZ.out; omega
  clear hz11
  rw [HZ.out] at V
  have y0 : w1.cell? ⟨rb + 1, 0, none⟩ = some (.slice (some ⟨bb, ob, none⟩) B.length cb) := by rw [cell_at Y.out]; rfl
  clear CL
  go_wp2
  go_loopw [5, 6, 17] (fun vs vi vk wr => ∃ (k i a : Nat) (P : List Rv), k ≤ B.length ∧ i ≤ A.length ∧ a ≤ 1048576 ∧ vk = .int .i64 k ∧ vi = .int .i64 i ∧ Hid (OvI A B a i P) ∧ Hid (∀ j (h : j < B.length), j < k → B[j].fr + B[j].ct ≤ a) ∧ Hid (∀ j (h : j < B.length), k ≤ j → a ≤ B[j].fr) ∧ Hid (∀ q ∈ P, RvW w lo q) ∧ Hid (Recs wr (rb + 3) 108 4 vs ((A ++ P).map rvR)) ∧ Hid (wr.heap[rb]? = some (.cells #[.slice (some ⟨ba, oa, none⟩) A.length ca] 43 (0, 0))) ∧ Hid (wr.heap[rb + 2]? = some (.cells #[.slice none 0 0] 43 (0, 0))) ∧ rb + 3 ≤ wr.heap.size ∧ Hid (Below w.heap.size w wr)) (fun _ _ i _ => B.length - (intOf i).toNat)
  case atStart => exact ⟨0, 0, 0, [], by omega, by omega, by omega, rfl, rfl, Lib.hid (OvI.start A B), Lib.hid (fun j h hj => absurd hj (by omega)), Lib.hid (fun j h hj => Nat.zero_le _), Lib.hid (fun q hq => by cases hq), by rw [List.append_nil]; exact V, X, F, hz13, K⟩
  case round =>
    clear V X Y F K y0
    obtain ⟨k, i, a, P, hk, hi, ha9, rfl, rfl, HI, HP1, HP2, HQ, V, X, F, hwz9, K⟩ := hrel
    by_cases hlt : k < B.length
    · have g0 : (k : Int) < B.length := by omega
      obtain ⟨c0, c1, c2, c3, hbb⟩ := row_cells (HSB.out.below K.out) k hlt
      have RWW := Lib.hid (HRB.out B[k] (List.getElem_mem hlt))
      have RW := Lib.hid RWW.out.1
      have HIn := Lib.hid (List.getElem_mem hlt)
      have HI2 := Lib.hid (HI.out.gap (HP2.out k hlt (Nat.le_refl _)) (fun c hc1 hc2 => tabSign_none (fun q hq => by
        obtain ⟨j, hj, rfl⟩ := List.getElem_of_mem hq
        rcases Nat.lt_or_ge j k with h | h
        · have := HP1.out j hj h; omega
        · rcases Nat.lt_or_eq_of_le h with h | h
          · have := List.pairwise_iff_getElem.1 hB.out k j hlt hj h; omega
          · subst h; omega)))
      have HN1 : Hid (∀ j (h : j < B.length), j < k + 1 → B[j].fr + B[j].ct ≤ B[k].fr + B[k].ct) := Lib.hid (fun j hj h => by
        rcases Nat.lt_or_eq_of_le (Nat.le_of_lt_succ h) with h | h
        · have := HP1.out j hj h; have := HP2.out k hlt (Nat.le_refl _); omega
        · subst h; omega)
      have HN2 : Hid (∀ j (h : j < B.length), k + 1 ≤ j → B[k].fr + B[k].ct ≤ B[j].fr) := Lib.hid (fun j hj h => List.pairwise_iff_getElem.1 hB.out k j hlt hj (by omega))
      have hro := hokB.out B[k] (List.getElem_mem hlt)
      have hr1 := hro.1
      have hr3 := hro.2.2
      clear HI HP1 HP2 hro
      generalize B[k] = r at *
      go_upto_region 6 with (fail)
      have R := Lib.hid (at_a0 wr #[.int .i64 r.fr, .int .i64 r.ct, .int .i32 r.tp, .slice r.sa r.sg.length r.cp] 108)
      have HSP0 : u5.ownBlock ≠ some wr.heap.size := fun e => by have := (V.out.lt _ e).2; omega
      have HWZ : rb + 3 ≤ wr.heap.size := (hwz9)
      have hB2 := (Below.refl wr.heap.size wr).alloc (Nat.le_refl _) (.cells #[.int .i64 r.fr, .int .i64 r.ct, .int .i32 r.tp, .slice r.sa r.sg.length r.cp] 108)
      replace V := Lib.hid (V.out.below hB2)
      replace X := Lib.hid (block_below X.out hB2)
      replace F := Lib.hid (block_below F.out hB2)
      replace K := Lib.hid (nextB K.out hB2)
      clear hB2 c0 c1 c2 c3 hbb
      have hkb : rb + 3 ≤ wr.heap.size := by have := K.out.size; have := HRb.out; have := HWZ; omega
      have HSP : Hid (u5.ownBlock ≠ some wr.heap.size) := Lib.hid HSP0
      clear HSP0 HWZ
      generalize wr.alloc (.cells #[.int .i64 r.fr, .int .i64 r.ct, .int .i32 r.tp, .slice r.sa r.sg.length r.cp] 108) = w2 at *
      generalize wr.heap.size = kb at *
      obtain ⟨y0, y1, y2, y3⟩ := cells4 (R.out)
      have RE := Lib.hid (fun w => rend_any r w (by omega) (by omega))
      obtain ⟨en, hen⟩ : ∃ en, en = r.fr + r.ct := ⟨_, rfl⟩
      rw [← hen] at RE
      have HEN := Lib.hid hen
      have hfe : r.fr ≤ en := by omega
      have he9 : en ≤ 1048576 := by omega
      clear hen hr1 hr3
      go_wp2
      go_loopw [5, 6, 9] (fun vs vi va wr => ∃ (i a : Nat) (P : List Rv), i ≤ A.length ∧ r.fr ≤ a ∧ a ≤ en ∧ va = .int .i64 a ∧ vi = .int .i64 i ∧ Hid (OvI A B a i P) ∧ Hid (∀ q ∈ P, RvW w lo q) ∧ Hid (Recs wr (rb + 3) 108 4 vs ((A ++ P).map rvR)) ∧ Hid (wr.heap[rb]? = some (.cells #[.slice (some ⟨ba, oa, none⟩) A.length ca] 43 (0, 0))) ∧ Hid (wr.heap[rb + 2]? = some (.cells #[.slice none 0 0] 43 (0, 0))) ∧ Hid (wr.heap[kb]? = some (.cells #[.int .i64 r.fr, .int .i64 r.ct, .int .i32 r.tp, .slice r.sa r.sg.length r.cp] 108 (0, 0))) ∧ Hid (vs.ownBlock ≠ some kb) ∧ Hid (Below w.heap.size w wr)) (fun _ _ a _ => r.fr + r.ct - (intOf a).toNat)
      case atStart => exact ⟨i, r.fr, P, hi, by omega, by omega, rfl, rfl, HI2, HQ, V, X, F, R, HSP, K⟩
      case round =>
        clear V X F R K HI2 HQ HSP y0 y1 y2 y3 hi ha9
        obtain ⟨i, a, P, hi, hra, hae, rfl, rfl, HI, HQ, V, X, F, R, HSP, K⟩ := hrel
        obtain ⟨y0, y1, y2, y3⟩ := cells4 (R.out)
        have x0 : wr.cell? ⟨rb, 0, none⟩ = some (.slice (some ⟨ba, oa, none⟩) A.length ca) := by rw [cell_at X.out]; rfl
        by_cases hlt2 : a < en
        · have g1 : (a : Int) < en := by omega
          go_upto_region 8 with (go_at_call 68; (with_reducible refine (RE.out _).mono ?_); rintro e w2 ⟨rfl, hb2⟩; replace V := Lib.hid (V.out.below hb2); replace X := Lib.hid (block_below X.out hb2); replace F := Lib.hid (block_below F.out hb2); replace R := Lib.hid (block_below R.out hb2); replace K := Lib.hid (nextB K.out hb2); clear hb2 x0 y0 y1 y2 y3; have x0 : w2.cell? ⟨rb, 0, none⟩ = some (.slice (some ⟨ba, oa, none⟩) A.length ca) := (by rw [cell_at X.out]; rfl); obtain ⟨y0, y1, y2, y3⟩ := cells4 (R.out))
          go_loopw [6] (fun vi wr => ∃ (i : Nat), i ≤ A.length ∧ vi = .int .i64 i ∧ Hid (OvI A B a i P) ∧ Hid (Recs wr (rb + 3) 108 4 u5 ((A ++ P).map rvR)) ∧ Hid (wr.heap[rb]? = some (.cells #[.slice (some ⟨ba, oa, none⟩) A.length ca] 43 (0, 0))) ∧ Hid (wr.heap[rb + 2]? = some (.cells #[.slice none 0 0] 43 (0, 0))) ∧ Hid (wr.heap[kb]? = some (.cells #[.int .i64 r.fr, .int .i64 r.ct, .int .i32 r.tp, .slice r.sa r.sg.length r.cp] 108 (0, 0))) ∧ Hid (Below w.heap.size w wr)) (fun vi _ => A.length - (intOf vi).toNat)
          case atStart => exact ⟨i, hi, rfl, HI, V, X, F, R, K⟩
          case round =>
            clear V X F R K HI hi x0 y0 y1 y2 y3
            obtain ⟨i, hi, rfl, HI, V, X, F, R, K⟩ := hrel
            obtain ⟨y0, y1, y2, y3⟩ := cells4 (R.out)
            have x0 : wr.cell? ⟨rb, 0, none⟩ = some (.slice (some ⟨ba, oa, none⟩) A.length ca) := by rw [cell_at X.out]; rfl
            by_cases hil : i < A.length
            · have t0 : decide ((i : Int) < (A.length : Int)) = true := decide_eq_true (by omega)
              have t1 : (i : Int) < A.length := by omega
              obtain ⟨d0, d1, d2, d3, hbb⟩ := row_cells (HSA.out.below K.out) i hil
              have hok := hokA.out A[i] (List.getElem_mem hil)
              obtain ⟨o, ho⟩ : ∃ o, o = A[i] := ⟨_, rfl⟩
              rw [← ho] at d0 d1 d2 d3 hok
              have HO := Lib.hid ho
              clear ho
              have RO := Lib.hid (fun w => rend_any o w (by omega) (by omega))
              obtain ⟨oe, hoe⟩ : ∃ oe, oe = o.fr + o.ct := ⟨_, rfl⟩
              rw [← hoe] at RO
              have ho1 := hok.1
              have ho3 := hok.2.2
              clear hok hbb
              by_cases hoa : oe ≤ a
              · have t2 : decide ((oe : Int) ≤ (a : Int)) = true := decide_eq_true (by omega)
                have HI2 := Lib.hid (HI.out.skip (fun h => by rw [← HO.out]; omega))
                clear hoe ho1 ho3 HI
                go_wp2_with (go_at_call 68; (with_reducible refine (RO.out _).mono ?_); rintro e w2 ⟨rfl, hb2⟩; replace V := Lib.hid (V.out.below hb2); replace X := Lib.hid (block_below X.out hb2); replace F := Lib.hid (block_below F.out hb2); replace R := Lib.hid (block_below R.out hb2); replace K := Lib.hid (nextB K.out hb2); clear hb2 x0 y0 y1 y2 y3; have x0 : w2.cell? ⟨rb, 0, none⟩ = some (.slice (some ⟨ba, oa, none⟩) A.length ca) := (by rw [cell_at X.out]; rfl); obtain ⟨y0, y1, y2, y3⟩ := cells4 (R.out); clear d0 d1 d2 d3; obtain ⟨d0, d1, d2, d3, -⟩ := row_cells (HSA.out.below K.out) i hil; rw [← HO.out] at d0 d1 d2 d3)
                exact ⟨⟨i + 1, by omega, by simp, HI2, V, X, F, R, K⟩, by simp [intOf]; omega⟩
              · have t2 : decide ((oe : Int) ≤ (a : Int)) = false := decide_eq_false (by omega)
                by_cases hof : o.fr ≤ a
                · have t3 : decide ((o.fr : Int) ≤ (a : Int)) = true := decide_eq_true (by omega)
                  have t4 : (o.fr : Int) ≤ (a : Int) := by omega
                  obtain ⟨m, hm⟩ : ∃ m, m = min en oe := ⟨_, rfl⟩
                  have hmi : min (en : Int) (oe : Int) = (m : Int) := by omega
                  have hm1 : a < m ∧ m ≤ en ∧ m ≤ oe := by omega
                  have HIC := Lib.hid (HI.out.cover hA.out hokA.out hil (by rw [← HO.out]; exact hof) (show a ≤ m by omega) (by rw [← HO.out]; omega))
                  clear hm hoe ho1 ho3 HI
                  go_wp2_with (go_at_call 68; (first | (with_reducible refine (RO.out _).mono ?_) | (with_reducible refine (RE.out _).mono ?_)); rintro e w2 ⟨rfl, hb2⟩; replace V := Lib.hid (V.out.below hb2); replace X := Lib.hid (block_below X.out hb2); replace F := Lib.hid (block_below F.out hb2); replace R := Lib.hid (block_below R.out hb2); replace K := Lib.hid (nextB K.out hb2); clear hb2 x0 y0 y1 y2 y3; have x0 : w2.cell? ⟨rb, 0, none⟩ = some (.slice (some ⟨ba, oa, none⟩) A.length ca) := (by rw [cell_at X.out]; rfl); obtain ⟨y0, y1, y2, y3⟩ := cells4 (R.out); clear d0 d1 d2 d3; obtain ⟨d0, d1, d2, d3, -⟩ := row_cells (HSA.out.below K.out) i hil; rw [← HO.out] at d0 d1 d2 d3)
                  exact ⟨⟨i, m, P, hi, by omega, by omega, rfl, rfl, HIC, HQ, V, X, F, R, HSP, K⟩, by have := HEN.out; simp [intOf]; omega⟩
                · have t3 : decide ((o.fr : Int) ≤ (a : Int)) = false := decide_eq_false (by omega)
                  have t4 : ¬ (o.fr : Int) ≤ (a : Int) := by omega
                  obtain ⟨m, hm⟩ : ∃ m, m = min en o.fr := ⟨_, rfl⟩
                  have hmi : min (en : Int) (o.fr : Int) = (m : Int) := by omega
                  have hm1 : a < m ∧ m ≤ en ∧ m ≤ o.fr := by omega
                  have PA := Lib.hid (fun w h => part_any r a m hra hm1.1 (by have := HEN.out; omega) w h)
                  have HIP := Lib.hid (HI.out.part (w := w) hA.out hB.out hokA.out hokB.out HIn.out RW.out hra hm1.1 (by have := HEN.out; omega) (fun h => by rw [← HO.out]; exact hm1.2.2))
                  have HQP : Hid (∀ q ∈ P ++ [partR r a m], RvW w lo q) := Lib.hid (fun q hq => by
                    rcases List.mem_append.1 hq with hq | hq
                    · exact HQ.out q hq
                    · obtain rfl : q = partR r a m := by simpa using hq
                      exact partR_w RWW.out hra hm1.1 (by have := HEN.out; omega) (by omega))
                  have hplen := HI.out.len
                  clear HI hm hoe ho1 ho3
                  have hpl9 : ((A ++ P).map rvR).length ≤ 1000000000 := by rw [List.length_map, List.length_append]; omega
                  obtain ⟨q, hq⟩ : ∃ q, q = partR r a m := ⟨_, rfl⟩
                  rw [← hq] at PA HIP HQP
                  clear hq
                  have PA2 : Hid (∀ w, Hid (RvOk w r) → Calls Tryz.prog 112 #[.agg #[.int .i64 r.fr, .int .i64 r.ct, .int .i32 r.tp, .slice r.sa r.sg.length r.cp], .int .i64 a, .int .i64 m] w fun x w' => x = .returned (.agg #[.int .i64 q.fr, .int .i64 q.ct, .int .i32 q.tp, .slice q.sa q.sg.length q.cp]) ∧ Below w.heap.size w w') := PA
                  clear PA
                  have hwb : rb + 3 ≤ wr.heap.size := by have := (Array.getElem?_eq_some_iff.1 R.out).1; omega
                  have hzz : wr.heap.size ≤ wr.heap.size := Nat.le_refl _
                  go_wp2_with (first | (go_at_call 68; (first | (with_reducible refine (RO.out _).mono ?_) | (with_reducible refine (RE.out _).mono ?_)); rintro e w2 ⟨rfl, hb2⟩; replace hzz := Nat.le_trans hzz hb2.size; replace V := Lib.hid (V.out.below hb2); replace X := Lib.hid (block_below X.out hb2); replace F := Lib.hid (block_below F.out hb2); replace R := Lib.hid (block_below R.out hb2); replace K := Lib.hid (nextB K.out hb2); clear hb2 x0 y0 y1 y2 y3; have x0 : w2.cell? ⟨rb, 0, none⟩ = some (.slice (some ⟨ba, oa, none⟩) A.length ca) := (by rw [cell_at X.out]; rfl); obtain ⟨y0, y1, y2, y3⟩ := cells4 (R.out); clear d0 d1 d2 d3; obtain ⟨d0, d1, d2, d3, -⟩ := row_cells (HSA.out.below K.out) i hil; rw [← HO.out] at d0 d1 d2 d3) | (go_at_call 112; (with_reducible refine (PA2.out _ (Lib.hid (RW.out.below K.out))).mono ?_); rintro e w3 ⟨rfl, hb3⟩; replace hzz := Nat.le_trans hzz hb3.size; replace V := Lib.hid (V.out.below hb3); replace X := Lib.hid (block_below X.out hb3); replace F := Lib.hid (block_below F.out hb3); replace R := Lib.hid (block_below R.out hb3); replace K := Lib.hid (nextB K.out hb3); clear hb3) | (at_builtin; refine wpList_pushAtR w3 rfl (.tmp 82) (.tmp 87) 41 rfl (rb + 3) 108 4 48 _ Tryz.underlying41 info_row rfl (by decide) (by decide) _ ((A ++ P).map rvR) (rvR q) _ (by rfl) rfl (one_rvR _) (by rfl) V.out (by rfl) (by omega) (by omega) _ ?_; intro v5 w5 hr5 hg5 hq5; have hl5 := V.out.lt; have V5 := Lib.hid hr5; have HG5 := Lib.hid hg5; have HL5 := Lib.hid hq5; clear hr5 hg5 hq5))
                  have KG := Lib.hid (pk_grown (Below.refl (rb + 3) w3) HG5.out (fun k e => (hl5 k e).1) (by omega))
                  have hk3 := (Array.getElem?_eq_some_iff.1 R.out).1
                  exact ⟨⟨i, m, P ++ [q], hi, by omega, by omega, rfl, rfl, HIP, HQP, Lib.hid (by rw [← List.append_assoc, List.map_append]; exact V5.out), Lib.hid ((KG.out.block rb (by omega)).trans X.out), Lib.hid ((KG.out.block (rb + 2) (by omega)).trans F.out), Lib.hid ((HG5.out.block kb hk3 (fun e => HSP.out e.symm)).trans R.out), Lib.hid (fun e => by
                    rcases HL5.out with h | h
                    · rw [h] at e; exact HSP.out e
                    · rw [h] at e; have := Option.some.inj e; omega), Lib.hid (K.out.trans (KG.out.mono (by have := HRb.out; omega)))⟩, by have := HEN.out; simp [intOf]; omega⟩
            · have t0 : decide ((i : Int) < (A.length : Int)) = false := decide_eq_false (by omega)
              have t1 : ¬ (i : Int) < A.length := by omega
              have hai : i = A.length := by omega
              have PA := Lib.hid (fun w h => part_any r a en hra hlt2 (by have := HEN.out; omega) w h)
              have HIP := Lib.hid (HI.out.part (w := w) hA.out hB.out hokA.out hokB.out HIn.out RW.out hra hlt2 (by have := HEN.out; omega) (fun h => absurd h (by omega)))
              have HQP : Hid (∀ q ∈ P ++ [partR r a en], RvW w lo q) := Lib.hid (fun q hq => by
                rcases List.mem_append.1 hq with hq | hq
                · exact HQ.out q hq
                · obtain rfl : q = partR r a en := by simpa using hq
                  exact partR_w RWW.out hra hlt2 (by have := HEN.out; omega) he9)
              have hplen := HI.out.len
              clear hai HI
              have hpl9 : ((A ++ P).map rvR).length ≤ 1000000000 := by rw [List.length_map, List.length_append]; omega
              obtain ⟨q, hq⟩ : ∃ q, q = partR r a en := ⟨_, rfl⟩
              rw [← hq] at PA HIP HQP
              clear hq
              have PA2 : Hid (∀ w, Hid (RvOk w r) → Calls Tryz.prog 112 #[.agg #[.int .i64 r.fr, .int .i64 r.ct, .int .i32 r.tp, .slice r.sa r.sg.length r.cp], .int .i64 a, .int .i64 en] w fun x w' => x = .returned (.agg #[.int .i64 q.fr, .int .i64 q.ct, .int .i32 q.tp, .slice q.sa q.sg.length q.cp]) ∧ Below w.heap.size w w') := PA
              clear PA
              have hwb : rb + 3 ≤ wr.heap.size := by have := (Array.getElem?_eq_some_iff.1 R.out).1; omega
              go_wp2_with (first | (go_at_call 68; (with_reducible refine (RE.out _).mono ?_); rintro e w2 ⟨rfl, hb2⟩; have hz2 := hb2.size; replace V := Lib.hid (V.out.below hb2); replace X := Lib.hid (block_below X.out hb2); replace F := Lib.hid (block_below F.out hb2); replace R := Lib.hid (block_below R.out hb2); replace K := Lib.hid (nextB K.out hb2); clear hb2 x0 y0 y1 y2 y3; have x0 : w2.cell? ⟨rb, 0, none⟩ = some (.slice (some ⟨ba, oa, none⟩) A.length ca) := (by rw [cell_at X.out]; rfl); obtain ⟨y0, y1, y2, y3⟩ := cells4 (R.out)) | (go_at_call 112; (with_reducible refine (PA2.out _ (Lib.hid (RW.out.below K.out))).mono ?_); rintro e w3 ⟨rfl, hb3⟩; have hz3 := hb3.size; replace V := Lib.hid (V.out.below hb3); replace X := Lib.hid (block_below X.out hb3); replace F := Lib.hid (block_below F.out hb3); replace R := Lib.hid (block_below R.out hb3); replace K := Lib.hid (nextB K.out hb3); clear hb3) | (at_builtin; refine wpList_pushAtR w3 rfl (.tmp 82) (.tmp 87) 41 rfl (rb + 3) 108 4 48 _ Tryz.underlying41 info_row rfl (by decide) (by decide) _ ((A ++ P).map rvR) (rvR q) _ (by rfl) rfl (one_rvR _) (by rfl) V.out (by rfl) (by omega) (by omega) _ ?_; intro v5 w5 hr5 hg5 hq5; have hl5 := V.out.lt; have V5 := Lib.hid hr5; have HG5 := Lib.hid hg5; have HL5 := Lib.hid hq5; clear hr5 hg5 hq5))
              have KG := Lib.hid (pk_grown (Below.refl (rb + 3) w3) HG5.out (fun k e => (hl5 k e).1) (by omega))
              have hk3 := (Array.getElem?_eq_some_iff.1 R.out).1
              exact ⟨⟨i, en, P ++ [q], hi, by omega, by omega, rfl, rfl, HIP, HQP, Lib.hid (by rw [← List.append_assoc, List.map_append]; exact V5.out), Lib.hid ((KG.out.block rb (by omega)).trans X.out), Lib.hid ((KG.out.block (rb + 2) (by omega)).trans F.out), Lib.hid ((HG5.out.block kb hk3 (fun e => HSP.out e.symm)).trans R.out), Lib.hid (fun e => by
                rcases HL5.out with h | h
                · rw [h] at e; exact HSP.out e
                · rw [h] at e; have := Option.some.inj e; omega), Lib.hid (K.out.trans (KG.out.mono (by have := HRb.out; omega)))⟩, by have := HEN.out; simp [intOf]; omega⟩
        · have g1 : ¬ (a : Int) < en := by omega
          go_wp2_with (go_at_call 68; (with_reducible refine (RE.out _).mono ?_); rintro e w2 ⟨rfl, hb2⟩; replace V := Lib.hid (V.out.below hb2); replace X := Lib.hid (block_below X.out hb2); replace F := Lib.hid (block_below F.out hb2); replace R := Lib.hid (block_below R.out hb2); replace K := Lib.hid (nextB K.out hb2); clear hb2 x0 y0 y1 y2 y3; have x0 : w2.cell? ⟨rb, 0, none⟩ = some (.slice (some ⟨ba, oa, none⟩) A.length ca) := (by rw [cell_at X.out]; rfl); obtain ⟨y0, y1, y2, y3⟩ := cells4 (R.out))
          have hae2 : a = r.fr + r.ct := by have := HEN.out; omega
          subst hae2
          exact ⟨⟨k + 1, i, r.fr + r.ct, P, by omega, hi, by omega, by simp, rfl, HI, HN1, HN2, HQ, V, X, F, by have := (Array.getElem?_eq_some_iff.1 R.out).1; omega, K⟩, by simp [intOf]; omega⟩
    · have g0 : ¬ (k : Int) < B.length := by omega
      have hke : k = B.length := by omega
      have HF := Lib.hid (fun S hp hs => HI.out.done (S := S) hA.out hokA.out (fun c hc => tabSign_none (fun q hq hh => by
        obtain ⟨j, hj, rfl⟩ := List.getElem_of_mem hq
        have := HP1.out j hj (by omega)
        omega)) ha9 hp hs)
      have hplen := HI.out.len
      have HQA : Hid (∀ q ∈ A ++ P, RvW w lo q) := Lib.hid (fun q hq => by
        rcases List.mem_append.1 hq with hq | hq
        · exact HRA.out q hq
        · exact HQ.out q hq)
      obtain ⟨a4, c4, hv4, hc4, hg4⟩ := V.out.view
      rw [List.length_map] at hv4 hc4
      obtain ⟨g, hga⟩ : ∃ g, a4 = some ⟨g, 0, none⟩ := by
        rcases hg4 with h | ⟨g, h, -⟩
        · rw [List.length_map, List.length_append] at h
          omega
        · exact ⟨g, h⟩
      subst hga
      subst hv4
      have hl1 : 1 ≤ (A ++ P).length := by rw [List.length_append]; omega
      have hll : (A ++ P).length ≤ 5000000 := by rw [List.length_append]; omega
      clear hg4 HI HP1 HP2 HQ hke
      generalize hAP : A ++ P = L at *
      have BF := Lib.hid (byfrom_any (rb + 3) g c4 L.length L wr rfl (by omega) V.out)
      go_upto_region 19 with (go_at_call 103; (with_reducible refine BF.out.mono ?_); rintro e w2 ⟨rfl, L', hp, hs, hr, ho⟩; have HPe := Lib.hid hp; have HSo := Lib.hid hs; have HRe := Lib.hid hr; have HOn := Lib.hid ho; clear hp hs hr ho)
      have hg2 := (V.out.lt g rfl).1
      have X2 := Lib.hid (block_only F.out HOn.out (by omega))
      have K2 := Lib.hid (onlyB K.out HOn.out (by have := HRb.out; omega))
      clear X F K V HOn
      have f0 : w2.cell? ⟨rb + 2, 0, none⟩ = some (.slice none 0 0) := by rw [cell_at X2.out]; rfl
      have ff0 : w2.frozen? ⟨rb + 2, 0, none⟩ = false := free_at X2.out
      have hLl : L'.length = L.length := HPe.out.length_eq
      go_wp2
      have hgl : g ≠ rb + 2 := by omega
      have hw9 : w.heap.size ≤ rb + 2 := by have := HRb.out; omega
      refine end_cell (by rfl) rfl (by rfl) (setCell_at (j := 0) (v := .slice (some ⟨g, 0, none⟩) L.length c4) X2.out) Tryz.underlying43 rfl (by kernel_rfl) ?_
      obtain ⟨e1, e2, e3⟩ := HF.out L' HPe.out HSo.out
      refine ⟨_, L', rfl, ⟨⟨some ⟨g, 0, none⟩, c4, by rw [hLl], by rw [hLl]; exact hc4, by rw [hLl]; exact HRe.out.setOther hgl, fun q hq => (HQA.out q (HPe.out.mem_iff.1 hq)).1.below (K2.out.setCell hw9 _)⟩, (fun k hk => by cases hk; show lo ≤ g; have := HRb.out; omega), fun q hq => (HQA.out q (HPe.out.mem_iff.1 hq)).2⟩, e1, e2, e3, by omega, K2.out.setCell hw9 _⟩
end Go.Proofs.YtffhmjlojmoomaaGreatDoor

namespace Go.Proofs.YtffhmjlojmoomaaGreatDoor
open Go.RowKit
set_option linter.unusedVariables false
set_option linter.unusedSimpArgs false

theorem tab_len : ∀ (S : List Rv) (a : Nat), TabDis S → RowsOk S → (∀ r ∈ S, a ≤ r.fr) → a ≤ 1048576 → S.length + a ≤ 1048576
  | [], a, _, _, _, ha => by simpa using ha
  | r :: S, a, hd, hok, hr, ha => by
    obtain ⟨h1, h2⟩ := List.pairwise_cons.1 hd
    have h3 := hok r List.mem_cons_self
    have h4 := hr r List.mem_cons_self
    have := tab_len S (a + 1) h2 (fun q hq => hok q (List.mem_cons_of_mem _ hq)) (fun q hq => by have := h1 q hq; omega) (by omega)
    rw [List.length_cons]
    omega
/-- a table in memory that gives these signs -/
def TabF (w : World) (B : Nat) (v : Value) (f : Nat → Option Nat) : Prop := ∃ S, TabIn w B v S ∧ TabDis S ∧ RowsOk S ∧ 1 ≤ S.length ∧ S.length ≤ 3000000 ∧ ∀ c, tabSign S c = f c
theorem TabF.setOlder {w : World} {B c j : Nat} {u v : Value} {f : Nat → Option Nat} (h : TabF w B v f) (hc : c < B) : TabF (w.setCell ⟨c, j, none⟩ u) B v f := by
  obtain ⟨S, h1, h2⟩ := h
  exact ⟨S, h1.setOlder hc, h2⟩
theorem TabF.base {w : World} {B B2 : Nat} {v : Value} {f : Nat → Option Nat} (h : TabF w B v f) (hb : B2 ≤ B) : TabF w B2 v f := by
  obtain ⟨S, h1, h2⟩ := h
  exact ⟨S, h1.base hb, h2⟩
theorem TabF.below {w w' : World} {v : Value} {B : Nat} {f : Nat → Option Nat} (h : TabF w B v f) (hb : Below w.heap.size w w') : TabF w' B v f := by
  obtain ⟨S, h1, h2⟩ := h
  exact ⟨S, h1.below hb, h2⟩
theorem TabF.congr {w : World} {v : Value} {B : Nat} {f g : Nat → Option Nat} (h : TabF w B v f) (e : ∀ c, f c = g c) : TabF w B v g := by
  obtain ⟨S, h1, h2, h3, h4, h5, h6⟩ := h
  exact ⟨S, h1, h2, h3, h4, h5, fun c => (h6 c).trans (e c)⟩
theorem TabF.view {w : World} {B : Nat} {v : Value} {f : Nat → Option Nat} (h : TabF w B v f) : ∃ b off n cap, v = .slice (some ⟨b, off, none⟩) n cap ∧ b < w.heap.size := by
  obtain ⟨S, h1, -, -, h4, -⟩ := h
  obtain ⟨b, off, cap, hv, hb, -⟩ := tabAt_cells h1.1 h4
  exact ⟨b, off, _, cap, hv, hb⟩
def pieF (L : List Pie) (c : Nat) : Option Nat := L.findSome? (fun p => if p.fr ≤ c ∧ c < p.fr + pieN p then (pieS p)[c - p.fr]? else none)
theorem rowsOf_F : ∀ (L : List Pie) (S : List Rv), S.length = L.length → RowsOf L S → ∀ c, tabSign S c = pieF L c
  | [], [], _, _, c => rfl
  | [], _ :: _, h, _, _ => by simp at h
  | _ :: _, [], h, _, _ => by simp at h
  | p :: L, r :: S, h, hr, c => by
    have h0 := hr 0 (by simp) (by simp)
    have ih := rowsOf_F L S (by simpa using h) (fun i h1 h2 => hr (i + 1) (by simpa using h1) (by simpa using h2)) c
    simp only [List.getElem_cons_zero] at h0
    unfold tabSign pieF at ih ⊢
    rw [List.findSome?_cons, List.findSome?_cons, ih, rowOf_signs h0, h0.1, h0.2.1]
theorem pieS_len (p : Pie) : (pieS p).length = pieN p := by
  unfold pieS pieN
  split <;> simp
theorem tabOf_F {w : World} {B : Nat} {v : Value} {L : List Pie} {S : List Rv} (hok : ∀ p ∈ L, PieOk p) (hd : L.Pairwise PieDis) (hn1 : 1 ≤ L.length) (hn : L.length ≤ 1000000) (ht : TabIn w B v S) (h : TabOf L S) : TabF w B v (pieF L) := by
  have hp1 : ∀ p ∈ L, 1 ≤ pieN p := by
    intro p hp
    have h1 := (hok p hp).2
    unfold pieN
    rcases h1 with ⟨h0, h1, -⟩ | ⟨h0, -⟩
    · rw [if_pos h0]; exact h1
    · rw [if_neg h0]; exact List.length_pos_iff.2 h0
  have hp2 : ∀ p ∈ L, p.fr + pieN p ≤ 1048576 := by
    intro p hp
    have h1 := (hok p hp).2
    unfold pieN
    rcases h1 with ⟨h0, -, h1, -⟩ | ⟨h0, h1, -⟩
    · rw [if_pos h0]; exact h1
    · rw [if_neg h0]; exact h1
  have hdis := tabOf_dis hd hp1 h
  obtain ⟨S0, hperm, hl, hr, hs⟩ := h
  have hSl : S.length = L.length := hperm.length_eq.trans hl
  have hrow0 : RowsOk S0 := by
    intro r hr0
    obtain ⟨i, hi, rfl⟩ := List.getElem_of_mem hr0
    have hi2 : i < L.length := by omega
    have h1 := hr i hi hi2
    have a1 := hp1 _ (List.getElem_mem hi2)
    have a2 := hp2 _ (List.getElem_mem hi2)
    refine ⟨by rw [h1.2.1]; exact a1, by rw [rowOf_signs h1, pieS_len, h1.2.1], by rw [h1.1, h1.2.1]; exact a2⟩
  have hrow : RowsOk S := fun r hr => hrow0 r (hperm.mem_iff.1 hr)
  refine ⟨S, ht, hdis, hrow, by omega, by omega, fun c => ?_⟩
  rw [← rowsOf_F L S0 hl hr c]
  exact (tabSign_perm hperm.symm (dis_ap hdis) (fun q hq => (hrow q hq).2.1) c).symm
theorem recsAt_new (w : World) (L : List (List Value)) (size : Nat) (hL : ∀ r ∈ L, r.length = size) (T : TypeId) (C : Array Value) (hC : C = L.flatten.toArray) (n : Nat) (hn : n = L.length) : RecsAt (w.alloc (.cells C T)) (some ⟨w.heap.size, 0, none⟩) n size L := by
  subst hC hn
  refine ⟨rfl, hL, .inr ⟨_, _, rfl, by simp, fun i hi j hj => ?_⟩⟩
  rw [cell_at (at_a0 _ _ _), Nat.zero_add, List.getElem?_toArray]
  exact flat_get hL i j hi hj
/-- table, of pieces that lie in a slice -/
theorem stable_F (a : Option Addr) (n cap : Nat) (L : List Pie) (w : World) (hs : Hid (RecsAt w a n 4 (L.map pieR))) (hcap : n ≤ cap) (hn : n ≤ 1000000) (hn1 : 1 ≤ n) (hok : Hid (∀ p ∈ L, PieOk p ∧ (p.tx ≠ [] → p.tp = 0 ∧ p.ct = 0))) (hd : Hid (L.Pairwise PieDis)) (hT : Hid (Tabs w)) :
    Calls Tryz.prog 41 #[.slice a n cap] w fun e w' => ∃ v, e = .returned (.agg #[v]) ∧ TabF w' w.heap.size v (pieF L) ∧ Below w.heap.size w w' := by
  have hl : L.length = n := by simpa using hs.out.1
  refine (stable_any a n cap L w hs hcap hn hn1 hok hd hT).mono ?_
  rintro e w' ⟨v, S, he, h1, h2, hb⟩
  exact ⟨v, he, tabOf_F (fun p hp => (hok.out p hp).1) hd.out (by omega) (by omega) h1 h2, hb⟩
end Go.Proofs.YtffhmjlojmoomaaGreatDoor

namespace Go.Proofs.YtffhmjlojmoomaaGreatDoor
open Go.RowKit
set_option linter.unusedVariables false
set_option linter.unusedSimpArgs false

/-- the pieces of KOI8-R -/
def koiP (C : Cst) : List Pie := [⟨0, 0, 128, []⟩, ⟨128, 0, 0, C.koi⟩]
def ukrP : List Pie := [⟨164, 1108, 1, []⟩, ⟨166, 1110, 2, []⟩, ⟨173, 1169, 1, []⟩, ⟨180, 1028, 1, []⟩, ⟨182, 1030, 2, []⟩, ⟨189, 1168, 1, []⟩]
def altP (C : Cst) : List Pie := [⟨0, 0, 128, []⟩, ⟨128, 1040, 48, []⟩, ⟨176, 0, 0, C.cpB⟩, ⟨224, 1088, 16, []⟩, ⟨240, 0, 0, C.cpF⟩]
def latP : List Pie := [⟨0, 0, 256, []⟩]
def ovF (f g : Nat → Option Nat) (c : Nat) : Option Nat := match f c with | some p => some p | none => g c
theorem calls_txt {P : Program} {f : Nat} {l m : List UInt8} {w : World} {Q : Ending → World → Prop} (h : l = m) (hc : Calls P f #[.string ⟨m.toArray⟩] w Q) : Calls P f #[.string ⟨l.toArray⟩] w Q := by rw [h]; exact hc
theorem pieR_len (L : List Pie) : ∀ r ∈ L.map pieR, r.length = 4 := by
  intro r hr
  obtain ⟨q, -, rfl⟩ := List.mem_map.1 hr
  rfl
theorem ne_nil_of {l : List Nat} {n : Nat} (h : l.length = n) (hn : n ≠ 0) : l ≠ [] := by
  intro e
  rw [e] at h
  exact hn h.symm
theorem koiP_ok {C : Cst} (hC : CstOk C) : (∀ p ∈ koiP C, PieOk p ∧ (p.tx ≠ [] → p.tp = 0 ∧ p.ct = 0)) ∧ (koiP C).Pairwise PieDis := by
  have h := hC.koiL
  have hne := ne_nil_of h.1 (by decide)
  constructor
  · intro p hp
    simp only [koiP, List.mem_cons, List.not_mem_nil, or_false] at hp
    rcases hp with rfl | rfl
    · exact ⟨⟨by decide, .inl (by decide)⟩, fun h => absurd rfl h⟩
    · exact ⟨⟨by show 128 < _; omega, .inr ⟨hne, by show 128 + C.koi.length ≤ _; omega, fun q hq => by have := h.2 q hq; unfold Sc; omega⟩⟩, fun _ => ⟨rfl, rfl⟩⟩
  · simp only [koiP, List.pairwise_cons, List.mem_cons, List.not_mem_nil, or_false, forall_eq, PieDis, pieN]
    refine ⟨.inl (by decide), by simp⟩
theorem ukrP_ok : (∀ p ∈ ukrP, PieOk p ∧ (p.tx ≠ [] → p.tp = 0 ∧ p.ct = 0)) ∧ ukrP.Pairwise PieDis := by
  constructor
  · intro p hp
    simp only [ukrP, List.mem_cons, List.not_mem_nil, or_false] at hp
    rcases hp with rfl | rfl | rfl | rfl | rfl | rfl <;> exact ⟨⟨by decide, .inl (by decide)⟩, fun h => absurd rfl h⟩
  · unfold ukrP PieDis pieN
    decide
theorem latP_ok : (∀ p ∈ latP, PieOk p ∧ (p.tx ≠ [] → p.tp = 0 ∧ p.ct = 0)) ∧ latP.Pairwise PieDis := by
  constructor
  · intro p hp
    simp only [latP, List.mem_cons, List.not_mem_nil, or_false] at hp
    subst hp
    exact ⟨⟨by decide, .inl (by decide)⟩, fun h => absurd rfl h⟩
  · unfold latP PieDis pieN
    decide
theorem altP_ok {C : Cst} (hC : CstOk C) : (∀ p ∈ altP C, PieOk p ∧ (p.tx ≠ [] → p.tp = 0 ∧ p.ct = 0)) ∧ (altP C).Pairwise PieDis := by
  have h := hC.cpBL
  have k := hC.cpFL
  have hne := ne_nil_of h.1 (by decide)
  have kne := ne_nil_of k.1 (by decide)
  constructor
  · intro p hp
    simp only [altP, List.mem_cons, List.not_mem_nil, or_false] at hp
    rcases hp with rfl | rfl | rfl | rfl | rfl
    · exact ⟨⟨by decide, .inl (by decide)⟩, fun h => absurd rfl h⟩
    · exact ⟨⟨by decide, .inl (by decide)⟩, fun h => absurd rfl h⟩
    · exact ⟨⟨by show 176 < _; omega, .inr ⟨hne, by show 176 + C.cpB.length ≤ _; omega, fun q hq => by have := h.2 q hq; unfold Sc; omega⟩⟩, fun _ => ⟨rfl, rfl⟩⟩
    · exact ⟨⟨by decide, .inl (by decide)⟩, fun h => absurd rfl h⟩
    · exact ⟨⟨by show 240 < _; omega, .inr ⟨kne, by show 240 + C.cpF.length ≤ _; omega, fun q hq => by have := k.2 q hq; unfold Sc; omega⟩⟩, fun _ => ⟨rfl, rfl⟩⟩
  · have e0 : pieN ⟨0, 0, 128, []⟩ = 128 := rfl
    have e1 : pieN ⟨128, 1040, 48, []⟩ = 48 := rfl
    have e2 : pieN ⟨176, 0, 0, C.cpB⟩ = 48 := by unfold pieN; rw [if_neg hne]; exact h.1
    have e3 : pieN ⟨224, 1088, 16, []⟩ = 16 := rfl
    have e4 : pieN ⟨240, 0, 0, C.cpF⟩ = 16 := by unfold pieN; rw [if_neg kne]; exact k.1
    simp only [altP, List.pairwise_cons, List.mem_cons, List.not_mem_nil, or_false, forall_eq_or_imp, forall_eq, PieDis, e0, e1, e2, e3, e4]
    simp
set_option maxHeartbeats 4000000 in
set_option maxRecDepth 100000 in
theorem russian_F (C : Cst) (hC : Hid (CstOk C)) (w : World) (hT : Hid (Tabs w)) :
    Calls Tryz.prog 43 #[] w fun e w' => ∃ v, e = .returned (.agg #[v]) ∧ TabF w' w.heap.size v (pieF (koiP C)) ∧ Below w.heap.size w w' := by
  have X := Lib.hid (at_a0 w #[.slice none 0 0] 43)
  have K := Lib.hid ((Below.refl w.heap.size w).alloc (Nat.le_refl _) (.cells #[.slice none 0 0] 43))
  have SP := Lib.hid (fun w => splain_any w)
  have SG := Lib.hid (fun w => signs_any C.koi (by rw [hC.out.koiL.1]; decide) (Lib.hid hC.out.koiL.2) w)
  have PL : Hid (∀ w, Calls Tryz.prog 72 #[.int .i64 128, .string ⟨(encs C.koi).toArray⟩] w fun e w' => e = .returned (.agg #[.int .i64 128, .int .i32 0, .int .i64 0, .string ⟨(encs C.koi).toArray⟩]) ∧ Below w.heap.size w w') := Lib.hid (fun w => plist_any 128 (encs C.koi) w)
  have HOK := Lib.hid (koiP_ok hC.out)
  go_enter Tryz.func43, Tryz.ntmps43
  go_upto_region 1 with (fail)
  obtain ⟨rb, hrb⟩ : ∃ rb, rb = w.heap.size := ⟨_, rfl⟩
  have hz0 : rb < (w.alloc (.cells #[.slice none 0 0] 43)).heap.size := by rw [hrb]; simp
  generalize w.alloc (.cells #[.slice none 0 0] 43) = w0 at *
  rw [← hrb] at X
  rw [← hrb]
  have HRB := Lib.hid hrb
  clear hrb
  go_wp2_with (first | (go_at_call 93; (with_reducible refine (SP.out _).mono ?_); rintro e w1 ⟨rfl, hb1⟩; replace X := Lib.hid (block_below X.out hb1); replace K := Lib.hid (nextB K.out hb1); replace hz0 := Nat.lt_of_lt_of_le hz0 hb1.size; clear hb1) | (go_at_call 94; refine calls_txt (m := listT C.koi) (by rw [← hC.out.koiE]; decide +kernel) ?_; (with_reducible refine (SG.out _).mono ?_); rintro e w1 ⟨rfl, hb1⟩; replace X := Lib.hid (block_below X.out hb1); replace K := Lib.hid (nextB K.out hb1); replace hz0 := Nat.lt_of_lt_of_le hz0 hb1.size; clear hb1) | (go_at_call 72; (with_reducible refine (PL.out _).mono ?_); rintro e w3 ⟨rfl, hb1⟩; replace X := Lib.hid (block_below X.out hb1); replace K := Lib.hid (nextB K.out hb1); replace hz0 := Nat.lt_of_lt_of_le hz0 hb1.size; clear hb1) | (go_at_call 41; have hal := (Below.refl w3.heap.size w3).alloc (Nat.le_refl _) (.cells #[.int .i64 0, .int .i32 0, .int .i64 128, .string ⟨#[]⟩, .int .i64 128, .int .i32 0, .int .i64 0, .string ⟨(encs C.koi).toArray⟩] 69); refine (stable_F (some ⟨w3.heap.size, 0, none⟩) 2 2 (koiP C) _ (Lib.hid (recsAt_new w3 ((koiP C).map pieR) 4 (pieR_len _) _ _ rfl 2 rfl)) (by omega) (by omega) (by omega) (Lib.hid HOK.out.1) (Lib.hid HOK.out.2) (Lib.hid (hT.out.below (nextB K.out hal)))).mono ?_; rintro e w5 ⟨v, rfl, hv, hb5⟩; obtain ⟨vb, vo, vn, vc, rfl, -⟩ := hv.view; have HV := Lib.hid (hv.base (show rb + 1 ≤ _ by simp; omega)); replace X := Lib.hid (block_below X.out (nextB hal hb5)); replace K := Lib.hid (nextB K.out (nextB hal hb5)); clear hal hv hb5; have x0 : w5.cell? ⟨rb, 0, none⟩ = some (.slice none 0 0) := (by rw [cell_at X.out]; rfl); have xf0 : w5.frozen? ⟨rb, 0, none⟩ = false := free_at X.out))
  refine end_cell (by rfl) rfl (by rfl) (setCell_at (j := 0) (v := .slice (some ⟨vb, vo, none⟩) vn vc) X.out) Tryz.underlying43 rfl (by kernel_rfl) ?_
  exact ⟨_, rfl, (HV.out.setOlder (by omega)).base (by have := HRB.out; omega), K.out.setCell (show w.heap.size ≤ rb by have := HRB.out; omega) _⟩
set_option maxHeartbeats 4000000 in
set_option maxRecDepth 100000 in
theorem alternative_F (C : Cst) (hC : Hid (CstOk C)) (w : World) (hT : Hid (Tabs w)) :
    Calls Tryz.prog 45 #[] w fun e w' => ∃ v, e = .returned (.agg #[v]) ∧ TabF w' w.heap.size v (pieF (altP C)) ∧ Below w.heap.size w w' := by
  have X := Lib.hid (at_a0 w #[.slice none 0 0] 43)
  have K := Lib.hid ((Below.refl w.heap.size w).alloc (Nat.le_refl _) (.cells #[.slice none 0 0] 43))
  have SP := Lib.hid (fun w => splain_any w)
  have SG1 := Lib.hid (fun w => signs_any C.cpB (by rw [hC.out.cpBL.1]; decide) (Lib.hid hC.out.cpBL.2) w)
  have SG2 := Lib.hid (fun w => signs_any C.cpF (by rw [hC.out.cpFL.1]; decide) (Lib.hid hC.out.cpFL.2) w)
  have S1 : Hid (∀ w, Calls Tryz.prog 42 #[.int .i64 128, .int .i32 1040, .int .i64 48] w fun e w' => e = .returned (.agg #[.int .i64 128, .int .i32 1040, .int .i64 48, .string ⟨#[]⟩]) ∧ Below w.heap.size w w') := Lib.hid (fun w => seq_any 128 1040 48 w)
  have S2 : Hid (∀ w, Calls Tryz.prog 42 #[.int .i64 224, .int .i32 1088, .int .i64 16] w fun e w' => e = .returned (.agg #[.int .i64 224, .int .i32 1088, .int .i64 16, .string ⟨#[]⟩]) ∧ Below w.heap.size w w') := Lib.hid (fun w => seq_any 224 1088 16 w)
  have PL1 : Hid (∀ w, Calls Tryz.prog 72 #[.int .i64 176, .string ⟨(encs C.cpB).toArray⟩] w fun e w' => e = .returned (.agg #[.int .i64 176, .int .i32 0, .int .i64 0, .string ⟨(encs C.cpB).toArray⟩]) ∧ Below w.heap.size w w') := Lib.hid (fun w => plist_any 176 (encs C.cpB) w)
  have PL2 : Hid (∀ w, Calls Tryz.prog 72 #[.int .i64 240, .string ⟨(encs C.cpF).toArray⟩] w fun e w' => e = .returned (.agg #[.int .i64 240, .int .i32 0, .int .i64 0, .string ⟨(encs C.cpF).toArray⟩]) ∧ Below w.heap.size w w') := Lib.hid (fun w => plist_any 240 (encs C.cpF) w)
  have HOK := Lib.hid (altP_ok hC.out)
  go_enter Tryz.func45, Tryz.ntmps45
  go_upto_region 1 with (fail)
  obtain ⟨rb, hrb⟩ : ∃ rb, rb = w.heap.size := ⟨_, rfl⟩
  have hz0 : rb < (w.alloc (.cells #[.slice none 0 0] 43)).heap.size := by rw [hrb]; simp
  generalize w.alloc (.cells #[.slice none 0 0] 43) = w0 at *
  rw [← hrb] at X
  rw [← hrb]
  have HRB := Lib.hid hrb
  clear hrb
  go_wp2_with (first | (go_at_call 93; (with_reducible refine (SP.out _).mono ?_); rintro e w3 ⟨rfl, hb1⟩; replace X := Lib.hid (block_below X.out hb1); replace K := Lib.hid (nextB K.out hb1); replace hz0 := Nat.lt_of_lt_of_le hz0 hb1.size; clear hb1) | (go_at_call 94; (first | (refine calls_txt (m := listT C.cpB) (by rw [← hC.out.cpBE]; decide +kernel) ?_; (with_reducible refine (SG1.out _).mono ?_)) | (refine calls_txt (m := listT C.cpF) (by rw [← hC.out.cpFE]; decide +kernel) ?_; (with_reducible refine (SG2.out _).mono ?_))); rintro e w3 ⟨rfl, hb1⟩; replace X := Lib.hid (block_below X.out hb1); replace K := Lib.hid (nextB K.out hb1); replace hz0 := Nat.lt_of_lt_of_le hz0 hb1.size; clear hb1) | (go_at_call 72; (first | (with_reducible refine (PL1.out _).mono ?_) | (with_reducible refine (PL2.out _).mono ?_)); rintro e w3 ⟨rfl, hb1⟩; replace X := Lib.hid (block_below X.out hb1); replace K := Lib.hid (nextB K.out hb1); replace hz0 := Nat.lt_of_lt_of_le hz0 hb1.size; clear hb1) | (go_at_call 42; (first | (with_reducible refine (S1.out _).mono ?_) | (with_reducible refine (S2.out _).mono ?_)); rintro e w3 ⟨rfl, hb1⟩; replace X := Lib.hid (block_below X.out hb1); replace K := Lib.hid (nextB K.out hb1); replace hz0 := Nat.lt_of_lt_of_le hz0 hb1.size; clear hb1) | (go_at_call 41; have hal := (Below.refl w3.heap.size w3).alloc (Nat.le_refl _) (.cells #[.int .i64 0, .int .i32 0, .int .i64 128, .string ⟨#[]⟩, .int .i64 128, .int .i32 1040, .int .i64 48, .string ⟨#[]⟩, .int .i64 176, .int .i32 0, .int .i64 0, .string ⟨(encs C.cpB).toArray⟩, .int .i64 224, .int .i32 1088, .int .i64 16, .string ⟨#[]⟩, .int .i64 240, .int .i32 0, .int .i64 0, .string ⟨(encs C.cpF).toArray⟩] 69); refine (stable_F (some ⟨w3.heap.size, 0, none⟩) 5 5 (altP C) _ (Lib.hid (recsAt_new w3 ((altP C).map pieR) 4 (pieR_len _) _ _ rfl 5 rfl)) (by omega) (by omega) (by omega) (Lib.hid HOK.out.1) (Lib.hid HOK.out.2) (Lib.hid (hT.out.below (nextB K.out hal)))).mono ?_; rintro e w5 ⟨v, rfl, hv, hb5⟩; obtain ⟨vb, vo, vn, vc, rfl, -⟩ := hv.view; have HV := Lib.hid (hv.base (show rb + 1 ≤ _ by simp; omega)); replace X := Lib.hid (block_below X.out (nextB hal hb5)); replace K := Lib.hid (nextB K.out (nextB hal hb5)); clear hal hv hb5; have x0 : w5.cell? ⟨rb, 0, none⟩ = some (.slice none 0 0) := (by rw [cell_at X.out]; rfl); have xf0 : w5.frozen? ⟨rb, 0, none⟩ = false := free_at X.out))
  refine end_cell (by rfl) rfl (by rfl) (setCell_at (j := 0) (v := .slice (some ⟨vb, vo, none⟩) vn vc) X.out) Tryz.underlying43 rfl (by kernel_rfl) ?_
  exact ⟨_, rfl, (HV.out.setOlder (by omega)).base (by have := HRB.out; omega), K.out.setCell (show w.heap.size ≤ rb by have := HRB.out; omega) _⟩
end Go.Proofs.YtffhmjlojmoomaaGreatDoor
