/- Layer 4 (run): New's round, from region 12 on: the marks and the row. | Layer 4 (run): New, walked. | Layer 4 (run): the code of a sign in a row. | Layer 4 (run): the code of a sign in a row that counts; in a table. | Layer 4 (run): a table read backwards. -/
import Derived.Test.YtffhmjlojmoomaaGreatDoorZU8
import Derived.Deep.DeepCutAuto

namespace Go.Proofs.YtffhmjlojmoomaaGreatDoor
open Go.RowKit
set_option linter.unusedVariables false
set_option linter.unusedSimpArgs false

/-- the statements of a function from a region on (the greatest piece of code that begins there) -/
def headIs (n : Nat) : Code → Bool
  | .region k _ _ => k == n
  | .seq a _ => headIs n a
  | .block _ c => headIs n c
  | .scope c => headIs n c
  | _ => false
def codeAt (n : Nat) : Code → Option Code
  | .seq a b => if headIs n a = true then some (.seq a b) else
    match codeAt n a with
    | some c => some c
    | none => codeAt n b
  | .loop c => codeAt n c
  | .block _ c => codeAt n c
  | .scope c => codeAt n c
  | .cond _ a b => match codeAt n a with
    | some c => some c
    | none => codeAt n b
  | .region k ops d => if k == n then some (.region k ops d) else none
  | _ => none
theorem recs_cell {w : World} {B e g n cap : Nat} {M : List Bool} (h : Recs w B e 1 (.slice (some ⟨g, 0, none⟩) n cap) (M.map boR)) (i : Nat) (hi : i < M.length) : w.cell? ⟨g, i, none⟩ = some (.bool M[i]) ∧ w.frozen? ⟨g, i, none⟩ = false := by
  have h2 := h.2
  rw [bo_flat] at h2
  constructor
  · have := World.ownsRow.cells h2 (g := g) rfl i (.bool M[i]) (by simp [hi])
    simpa [Go.WideShapes.add_plain] using this
  · rcases h2.2 with ⟨h0, -⟩ | ⟨g', cap', cur, hv, hb, hg, hn, hc, hcs, ht⟩
    · cases h0
    · injection hv with e1 e2 e3
      injection e1 with e1
      injection e1 with e1
      subst e1
      exact free_at hg
noncomputable def tail58 : Code := (Tryz.f58.body.bind (codeAt 12)).getD .skip
set_option maxHeartbeats 4000000 in
set_option maxRecDepth 100000 in
theorem new_tail {Q : Exit → Act → World → Prop} {w wc : World} {rb kb g m c5 : Nat} {r : Rv} {S : List Rv} {M : List Bool} {u0 u1 u2 u3 u4 u6 u7 u9 u10 u11 u12 u13 u14 u15 u16 u17 u18 u19 u20 u21 u22 u23 u24 u25 u26 u27 u28 u29 u30 u31 u32 u33 u34 u35 u36 u37 u38 u39 u40 u41 u42 u43 u44 u45 u46 u47 u48 u49 u50 u51 u52 u53 u54 u55 u56 u57 u58 u59 u60 u61 u62 u63 u64 u65 u66 : Value}
    (hm : m = M.length) (hct : 1 ≤ r.ct) (hrm : r.fr + r.ct ≤ m) (hm9 : m ≤ 1048576) (hS : S.length ≤ 1000000) (hrk : rb + 2 ≤ kb) (hwr : w.heap.size ≤ rb)
    (HM : Hid (Marks S r.fr r.fr M)) (HF : Hid (∀ (M' : List Bool) (j : Nat), M'.length = m → Marks S r.fr j M' → r.fr ≤ j → j < r.fr + r.ct → ∀ (h : j < M'.length), M'[j] = false))
    (V4 : Hid (Recs wc (rb + 2) 108 4 (u4) (S.map rvR))) (V5 : Hid (Recs wc (rb + 2) 4 1 (.slice (some ⟨g, 0, none⟩) m c5) (M.map boR))) (RQ : Hid (∀ q ∈ (r :: S), RvIn wc (rb + 2) q)) (X : Hid (wc.heap[rb]? = some (.cells #[.slice none 0 0] 43 (0, 0)))) (F : Hid (wc.heap[rb + 1]? = some (.cells #[.int .i64 0, .int .i64 0] 26 (0, 0)))) (R : Hid (wc.heap[kb]? = some (.cells #[.int .i64 r.fr, .int .i64 r.ct, .int .i32 r.tp, .slice r.sa r.sg.length r.cp] 108 (0, 0)))) (K : Hid (Below w.heap.size w wc))
    (hQ : ∀ (M' : List Bool) (w5 : World) (x4 x11 x39 x40 x41 x42 x43 x44 x45 x46 x47 x48 x49 x50 x51 x52 x53 x54 x55 x56 x57 x58 x59 x60 : Value), M'.length = m → Marks (S ++ [r]) 0 0 M' → Hid (Recs w5 (rb + 2) 108 4 (x4) ((S ++ [r]).map rvR)) → Hid (Recs w5 (rb + 2) 4 1 (.slice (some ⟨g, 0, none⟩) m c5) (M'.map boR)) → Hid (∀ q ∈ (S ++ [r]), RvIn w5 (rb + 2) q) → Hid (w5.heap[rb]? = some (.cells #[.slice none 0 0] 43 (0, 0))) → Hid (w5.heap[rb + 1]? = some (.cells #[.int .i64 0, .int .i64 0] 26 (0, 0))) → Hid (Below w.heap.size w w5) → Q .normal ⟨#[u0, u1, u2, u3, x4, .slice (some ⟨g, 0, none⟩) m c5, u6, u7, .pointer (some ⟨kb, 0, none⟩), u9, u10, x11, u12, u13, u14, u15, u16, u17, u18, u19, u20, u21, u22, u23, u24, u25, u26, u27, u28, u29, u30, u31, u32, u33, u34, u35, u36, u37, u38, x39, x40, x41, x42, x43, x44, x45, x46, x47, x48, x49, x50, x51, x52, x53, x54, x55, x56, x57, x58, x59, x60, u61, u62, u63, u64, u65, u66], []⟩ w5) :
    Code.wp Tryz.prog tail58 Q ⟨#[u0, u1, u2, u3, u4, .slice (some ⟨g, 0, none⟩) m c5, u6, u7, .pointer (some ⟨kb, 0, none⟩), u9, u10, u11, u12, u13, u14, u15, u16, u17, u18, u19, u20, u21, u22, u23, u24, u25, u26, u27, u28, u29, u30, u31, u32, u33, u34, u35, u36, u37, u38, u39, u40, u41, u42, u43, u44, u45, u46, u47, u48, u49, u50, u51, u52, u53, u54, u55, u56, u57, u58, u59, u60, u61, u62, u63, u64, u65, u66], []⟩ wc := by
  conv => arg 2; whnf
  have HMm := Lib.hid hm
  clear hm
  have hfi : (r.fr : Int) ≤ 1048576 := by omega
  have RE := Lib.hid (fun w => rend_any r w (by omega) (by omega))
  obtain ⟨y0, y1, y2, y3⟩ := cells4 (R.out)
  go_upto_region 13 with (fail)
  clear y0 y1 y2 y3
  go_loopw [11] (fun s11 wx => ∃ (j : Nat) (M' : List Bool), s11 = .int .i64 j ∧ r.fr ≤ j ∧ j ≤ r.fr + r.ct ∧ Hid (M'.length = m) ∧ Hid (Marks S r.fr j M') ∧ Hid (Recs wx (rb + 2) 108 4 (u4) (S.map rvR)) ∧ Hid (Recs wx (rb + 2) 4 1 (.slice (some ⟨g, 0, none⟩) m c5) (M'.map boR)) ∧ Hid (∀ q ∈ (r :: S), RvIn wx (rb + 2) q) ∧ Hid (wx.heap[rb]? = some (.cells #[.slice none 0 0] 43 (0, 0))) ∧ Hid (wx.heap[rb + 1]? = some (.cells #[.int .i64 0, .int .i64 0] 26 (0, 0))) ∧ Hid (wx.heap[kb]? = some (.cells #[.int .i64 r.fr, .int .i64 r.ct, .int .i32 r.tp, .slice r.sa r.sg.length r.cp] 108 (0, 0))) ∧ Hid (Below w.heap.size w wx)) (fun s11 _ => r.fr + r.ct - (intOf s11).toNat)
  case atStart => exact ⟨r.fr, M, rfl, by omega, by omega, Lib.hid HMm.out.symm, HM, V4, V5, RQ, X, F, R, K⟩
  case round =>
    clear HM V4 V5 RQ X F R K
    obtain ⟨j, M', rfl, hj1, hj2, HL, HM, V4, V5, RQ, X, F, R, K⟩ := hrel
    obtain ⟨y0, y1, y2, y3⟩ := cells4 (R.out)
    by_cases hlt : j < r.fr + r.ct
    · have g0 : (j : Int) < ((r.fr + r.ct : Nat) : Int) := by omega
      have hjm : (j : Int) < m := by omega
      go_upto_region 15 with (go_at_call 68; (with_reducible refine (RE.out _).mono ?_); rintro e w3 ⟨rfl, hb3⟩)
      replace V4 := Lib.hid (V4.out.below hb3)
      replace V5 := Lib.hid (V5.out.below hb3)
      replace RQ := Lib.hid (fun q hq => (RQ.out q hq).below hb3)
      replace X := Lib.hid (block_below X.out hb3)
      replace F := Lib.hid (block_below F.out hb3)
      replace R := Lib.hid (block_below R.out hb3)
      replace K := Lib.hid (nextB K.out hb3)
      clear hb3 y0 y1 y2 y3
      have hjl : j < M'.length := by rw [HL.out]; omega
      obtain ⟨d1, d2⟩ := recs_cell V5.out j hjl
      rw [HF.out M' j HL.out HM.out hj1 hlt hjl] at d1
      go_wp2
      have hgl := V5.out.lt g rfl
      have hO : w3.grownBy (w3.setCell ⟨g, j, none⟩ (.bool true)) (some g) := Only.set _
      have a1 : (Value.slice (some ⟨g, 0, none⟩) m c5).ownBlock = some g := rfl
      rw [← a1] at hO
      refine ⟨⟨j + 1, M'.set j true, by simp, by omega, by omega, Lib.hid (by rw [List.length_set]; exact HL.out), Lib.hid (HM.out.put hj1), Lib.hid (V4.out.kept hO (recs_apart' V4.out V5.out (by decide))), Lib.hid (recs_setB V5.out j hjl true), Lib.hid (fun q hq => (RQ.out q hq).kept V5.out (by decide) hO), Lib.hid ((heap_set_other _ (by omega)).trans X.out), Lib.hid ((heap_set_other _ (by omega)).trans F.out), Lib.hid ((heap_set_other _ ?hg).trans R.out), Lib.hid (K.out.setCell (show w.heap.size ≤ g by omega) _)⟩, by simp [intOf]; omega⟩
      intro e
      exact recs_off V5.out R.out (by decide) (by rw [e]; rfl)
    · have g0 : ¬ (j : Int) < ((r.fr + r.ct : Nat) : Int) := by omega
      go_upto_region 18 with (go_at_call 68; (with_reducible refine (RE.out _).mono ?_); rintro e w3 ⟨rfl, hb3⟩)
      replace V4 := Lib.hid (V4.out.below hb3)
      replace V5 := Lib.hid (V5.out.below hb3)
      replace RQ := Lib.hid (fun q hq => (RQ.out q hq).below hb3)
      replace X := Lib.hid (block_below X.out hb3)
      replace F := Lib.hid (block_below F.out hb3)
      replace R := Lib.hid (block_below R.out hb3)
      replace K := Lib.hid (nextB K.out hb3)
      clear hb3 y0 y1 y2 y3
      obtain ⟨z0, z1, z2, z3⟩ := cells4 (R.out)
      have hkb := (Array.getElem?_eq_some_iff.1 R.out).1
      have ej : j = r.fr + r.ct := by omega
      have HM2 := Lib.hid (show Marks (S ++ [r]) 0 0 M' by have h := HM.out; rw [ej] at h; exact h.done)
      clear HM ej
      go_wp2_with (at_builtin; refine wpList_pushR w3 rfl (.tmp 57) (.tmp 59) 41 rfl (rb + 2) 108 4 48 _ Tryz.underlying41 info_row rfl (by decide) (by decide) _ (S.map rvR) (rvR r) _ (by rfl) rfl (one_rvR _) (by rfl) V4.out (by rfl) (by rw [List.length_map]; omega) (by omega) _ ?_; intro v5 w5 hr5 hg5; have hl5 := V4.out.lt; have V4n := Lib.hid hr5; have HG5 := Lib.hid hg5; have KG := Lib.hid (pk_grown (Below.refl (rb + 2) w3) hg5 (fun k e => (hl5 k e).1) (by omega)); clear hl5 hr5 hg5)
      have RQ5 : Hid (∀ q ∈ S ++ [r], RvIn w5 (rb + 2) q) := Lib.hid (fun q hq => (RQ.out q (by simp at hq ⊢; exact hq.symm)).kept V4.out (by decide) HG5.out)
      have V55 := Lib.hid (V5.out.kept HG5.out (recs_apart' V5.out V4.out (by decide)))
      exact hQ M' w5 _ _ _ _ _ _ _ _ _ _ _ _ _ _ _ _ _ _ _ _ _ _ _ _ HL.out HM2.out (Lib.hid (by rw [List.map_append]; exact V4n.out)) V55 RQ5 (Lib.hid ((KG.out.block rb (by omega)).trans X.out)) (Lib.hid ((KG.out.block (rb + 1) (by omega)).trans F.out)) (Lib.hid (K.out.trans (KG.out.mono (by omega))))
end Go.Proofs.YtffhmjlojmoomaaGreatDoor

namespace Go.Proofs.YtffhmjlojmoomaaGreatDoor
open Go.RowKit
set_option linter.unusedVariables false
set_option linter.unusedSimpArgs false

theorem end_cc {P : Program} {fn : Func} {R : Ending → World → Prop} {a : Act} {w : World} {p1 p2 : Tmp} {ty1 ty2 t1 t2 : TypeId} {b1 b2 : Nat} {C1 C2 : Array Value} {d1 d2 : TypeDesc}
    (h : fn.results = #[.cell p1 ty1, .cell p2 ty2]) (hd0 : a.defers = []) (hp1 : a.tmps.getD p1 undef = .pointer (some ⟨b1, 0, none⟩)) (hg1 : w.heap[b1]? = some (.cells C1 t1 (0, 0)))
    (hu1 : P.underlying ty1 = some d1) (hd1 : (match d1 with | .struct _ | .array _ _ => true | _ => false) = true) (hi1 : (P.info? ty1).map (·.size) = some C1.size)
    (hp2 : a.tmps.getD p2 undef = .pointer (some ⟨b2, 0, none⟩)) (hg2 : w.heap[b2]? = some (.cells C2 t2 (0, 0)))
    (hu2 : P.underlying ty2 = some d2) (hd2 : (match d2 with | .struct _ | .array _ _ => true | _ => false) = true) (hi2 : (P.info? ty2).map (·.size) = some C2.size)
    (hR : R (.returned (.tuple #[.agg C1, .agg C2])) w) : bodyPost P fn R .ret a w := by
  refine bodyPost_ret (v := .tuple #[.agg C1, .agg C2]) ?_ hd0 hR
  have hp1' : a.tmps[p1]?.getD undef = .pointer (some ⟨b1, 0, none⟩) := by simpa using hp1
  have hp2' : a.tmps[p2]?.getD undef = .pointer (some ⟨b2, 0, none⟩) := by simpa using hp2
  simp only [results, h]
  simp [hp1', hp2', asAddr, run_loadVar_row w b1 t1 ty1 C1 (0, 0) d1 hg1 hu1 hd1 hi1, run_loadVar_row w b2 t2 ty2 C2 (0, 0) d2 hg2 hu2 hd2 hi2]
theorem Recs.setOlder {w : World} {B e size c j : Nat} {v u : Value} {L : List (List Value)} (h : Recs w B e size v L) (hc : c < B) : Recs (w.setCell ⟨c, j, none⟩ u) B e size v L :=
  h.kept (row := some c) (Only.set (b := c) u) (by
    by_cases hn : v.ownBlock = none
    · exact .inl hn
    · right
      intro e
      have := (h.lt c e).1
      omega)
theorem RvIn.setOlder {w : World} {B c j : Nat} {u : Value} {r : Rv} (h : RvIn w B r) (hc : c < B) : RvIn (w.setCell ⟨c, j, none⟩ u) B r :=
  ⟨h.1, h.2.imp id (fun ⟨h1, h2, h3⟩ => ⟨h1, h2, h3.setOlder hc⟩)⟩
theorem RecsAt.setOther {w : World} {g c j n size : Nat} {u : Value} {L : List (List Value)} (h : RecsAt w (some ⟨g, 0, none⟩) n size L) (hc : g ≠ c) : RecsAt (w.setCell ⟨c, j, none⟩ u) (some ⟨g, 0, none⟩) n size L := by
  refine ⟨h.1, h.2.1, ?_⟩
  rcases h.2.2 with h0 | ⟨b, off, ha, hlt, hcell⟩
  · exact .inl h0
  · have hb : b = g := by
      injection ha with ha
      injection ha with ha
      exact ha.symm
    refine .inr ⟨b, off, ha, by simpa using hlt, fun i hi j hj => ?_⟩
    rw [World.cell?_of_block (heap_set_other (b := b) u (by omega))]
    exact hcell i hi j hj
/-- a table: its rows in memory, in the order of their codes -/
def TabAt (w : World) (v : Value) (S : List Rv) : Prop := ∃ a cap, v = .slice a S.length cap ∧ S.length ≤ cap ∧ RecsAt w a S.length 4 (S.map rvR) ∧ ∀ q ∈ S, RvOk w q
theorem TabAt.below {w w' : World} {v : Value} {S : List Rv} (h : TabAt w v S) (hb : Below w.heap.size w w') : TabAt w' v S := by
  obtain ⟨a, cap, h1, h2, h3, h4⟩ := h
  exact ⟨a, cap, h1, h2, h3.below hb, fun q hq => (h4 q hq).below hb⟩
/-- .. and all of it made by the call -/
def TabIn (w : World) (B : Nat) (v : Value) (S : List Rv) : Prop := TabAt w v S ∧ (∀ k, v.ownBlock = some k → B ≤ k) ∧ ∀ r ∈ S, ∀ k, (Value.slice r.sa r.sg.length r.cp).ownBlock = some k → B ≤ k
theorem TabIn.below {w w' : World} {B : Nat} {v : Value} {S : List Rv} (h : TabIn w B v S) (hb : Below w.heap.size w w') : TabIn w' B v S := ⟨h.1.below hb, h.2⟩
theorem TabIn.base {w : World} {B B2 : Nat} {v : Value} {S : List Rv} (h : TabIn w B v S) (hb : B2 ≤ B) : TabIn w B2 v S := ⟨h.1, fun k hk => Nat.le_trans hb (h.2.1 k hk), fun r hr k hk => Nat.le_trans hb (h.2.2 r hr k hk)⟩
theorem TabIn.setOlder {w : World} {B c j : Nat} {u v : Value} {S : List Rv} (h : TabIn w B v S) (hc : c < B) : TabIn (w.setCell ⟨c, j, none⟩ u) B v S := by
  obtain ⟨⟨a, cap, rfl, hcap, hs, hr⟩, h1, h2⟩ := h
  refine ⟨⟨a, cap, rfl, hcap, ⟨hs.1, hs.2.1, ?_⟩, fun q hq => ⟨(hr q hq).1, (hr q hq).2.1, ?_⟩⟩, h1, h2⟩
  · rcases hs.2.2 with h0 | ⟨b, off, rfl, hlt, hcell⟩
    · exact .inl h0
    · have hb := h1 b rfl
      refine .inr ⟨b, off, rfl, by simpa using hlt, fun i hi j hj => ?_⟩
      rw [World.cell?_of_block (heap_set_other (b := b) u (by omega))]
      exact hcell i hi j hj
  · rcases (hr q hq).2.2 with h0 | ⟨e1, e2, b, off, e3, e4, e5, e6⟩
    · exact .inl h0
    · have hb := h2 q hq b (by rw [e3]; rfl)
      refine .inr ⟨e1, e2, b, off, e3, e4, by simpa using e5, fun i hi => ?_⟩
      rw [World.cell?_of_block (heap_set_other (b := b) u (by omega))]
      exact e6 i hi
theorem RvIn.own {w : World} {B : Nat} {r : Rv} (h : RvIn w B r) : ∀ k, (Value.slice r.sa r.sg.length r.cp).ownBlock = some k → B ≤ k := by
  intro k hk
  rcases h.2 with ⟨-, h0, -⟩ | ⟨-, -, h3⟩
  · rw [h0] at hk; cases hk
  · exact (h3.lt k hk).1
/-- the rows that New makes of pieces -/
def TabOf (L : List Pie) (S : List Rv) : Prop := ∃ S0 : List Rv, S.Perm S0 ∧ S0.length = L.length ∧ RowsOf L S0 ∧ S.Pairwise (fun a b => ¬ b.fr < a.fr)
set_option maxHeartbeats 4000000 in
set_option maxRecDepth 100000 in
theorem new_any (a : Option Addr) (n cap : Nat) (L : List Pie) (w : World) (hs : Hid (RecsAt w a n 4 (L.map pieR))) (hcap : n ≤ cap) (hn : n ≤ 1000000) (hn1 : 1 ≤ n) (hok : Hid (∀ p ∈ L, PieOk p ∧ (p.tx ≠ [] → p.tp = 0 ∧ p.ct = 0))) (hd : Hid (L.Pairwise PieDis)) (hT : Hid (Tabs w)) :
    Calls Tryz.prog 58 #[.slice a n cap] w fun e w' => ∃ v S, e = .returned (.tuple #[.agg #[v], .agg #[.int .i64 0, .int .i64 0]]) ∧ TabIn w' w.heap.size v S ∧ TabOf L S ∧ Below w.heap.size w w' := by
  have HL : Hid (L.length = n) := Lib.hid (by simpa using hs.out.1)
  have hni : (n : Int) ≤ 1000000 := by omega
  obtain ⟨rb, hrb⟩ : ∃ rb, rb = w.heap.size := ⟨_, rfl⟩
  have K := Lib.hid (((Below.refl w.heap.size w).alloc (Nat.le_refl _) (.cells #[.slice none 0 0] 43)).alloc (by simp) (.cells #[.int .i64 0, .int .i64 0] 26))
  have X := Lib.hid (at_a1 w #[.slice none 0 0] 43 (.cells #[.int .i64 0, .int .i64 0] 26))
  have F := Lib.hid (at_a2 w #[.int .i64 0, .int .i64 0] 26 (.cells #[.slice none 0 0] 43))
  go_enter Tryz.func58, Tryz.ntmps58
  go_upto_region 1 with (fail)
  generalize (w.alloc (.cells #[.slice none 0 0] 43)).alloc (.cells #[.int .i64 0, .int .i64 0] 26) = w0 at *
  rw [← hrb] at X F
  rw [← hrb]
  have HRB := Lib.hid hrb
  clear hrb
  go_wp2
  go_loopw [4, 5, 14] (fun s4 s5 i wr => ∃ (S : List Rv) (M : List Bool), S.length ≤ n ∧ M.length ≤ 1048576 ∧ i = .int .i64 S.length ∧ Hid (RowsOf L S) ∧ Hid (Marks S 0 0 M) ∧ Hid (∀ r ∈ S, RvIn wr (rb + 2) r) ∧ Hid (Recs wr (rb + 2) 108 4 s4 (S.map rvR)) ∧ Hid (Recs wr (rb + 2) 4 1 s5 (M.map boR)) ∧ Hid (wr.heap[rb]? = some (.cells #[.slice none 0 0] 43 (0, 0))) ∧ Hid (wr.heap[rb + 1]? = some (.cells #[.int .i64 0, .int .i64 0] 26 (0, 0))) ∧ Hid (Below w.heap.size w wr)) (fun _ _ i _ => n - (intOf i).toNat)
  case atStart => exact ⟨[], [], by simp, by simp, rfl, Lib.hid (fun i hi => by simp at hi), Lib.hid Marks.nil, Lib.hid (fun r hr => by simp at hr), Lib.hid (Recs.nil _ _ _ _), Lib.hid (Recs.nil _ _ _ _), X, F, K⟩
  case round =>
    clear X F K
    obtain ⟨S, M, hSn, hMn, rfl, HS, HM, RI, V4, V5, X, F, K⟩ := hrel
    by_cases hlt : S.length < n
    · have g0 : (S.length : Int) < n := by omega
      have hSL : S.length < L.length := by rw [HL.out]; exact hlt
      have hRA := hs.out.below K.out
      obtain ⟨b, off, rfl, hbb, hc⟩ : ∃ b off, a = some ⟨b, off, none⟩ ∧ b < wr.heap.size ∧ ∀ j, j < 4 → wr.cell? ⟨b, off + (S.length * 4 + j), none⟩ = (pieR L[S.length])[j]? := by
        rcases hRA.2.2 with h0 | ⟨b, off, ha, hb, hc⟩
        · omega
        · exact ⟨b, off, ha, hb, fun j hj => by rw [hc S.length (by simpa using hSL) j hj]; simp⟩
      have hpo := hok.out L[S.length] (List.getElem_mem hSL)
      have PR := Lib.hid (fun w hT => prow_any L[S.length] hpo.1 hpo.2 w hT)
      have c0 : wr.cell? ⟨b, off + S.length * 4, none⟩ = some (.int .i64 L[S.length].fr) := hc 0 (by decide)
      have c1 : wr.cell? ⟨b, off + S.length * 4 + 1, none⟩ = some (.int .i32 L[S.length].tp) := hc 1 (by decide)
      have c2 : wr.cell? ⟨b, off + S.length * 4 + 2, none⟩ = some (.int .i64 L[S.length].ct) := hc 2 (by decide)
      have c3 : wr.cell? ⟨b, off + S.length * 4 + 3, none⟩ = some (.string ⟨(encs L[S.length].tx).toArray⟩) := hc 3 (by decide)
      have hpn : 1 ≤ pieN L[S.length] := by
        have h := hpo.1.2
        unfold pieN
        rcases h with ⟨h0, h1, -⟩ | ⟨h0, -⟩
        · rw [if_pos h0]; exact h1
        · rw [if_neg h0]; exact List.length_pos_iff.2 h0
      clear hc hRA hpo
      obtain ⟨p, hp⟩ : ∃ p, p = L[S.length] := ⟨_, rfl⟩
      rw [← hp] at PR c0 c1 c2 c3 hpn
      have HP := Lib.hid hp
      clear hp
      go_upto_region 6 with (fail)
      have P := Lib.hid (at_a0 wr #[.int .i64 p.fr, .int .i32 p.tp, .int .i64 p.ct, .string ⟨(encs p.tx).toArray⟩] 69)
      have hB := (Below.refl wr.heap.size wr).alloc (Nat.le_refl _) (.cells #[.int .i64 p.fr, .int .i32 p.tp, .int .i64 p.ct, .string ⟨(encs p.tx).toArray⟩] 69)
      replace V4 := Lib.hid (V4.out.below hB)
      replace V5 := Lib.hid (V5.out.below hB)
      replace RI := Lib.hid (fun q hq => (RI.out q hq).below hB)
      replace X := Lib.hid (block_below X.out hB)
      replace F := Lib.hid (block_below F.out hB)
      replace K := Lib.hid (nextB K.out hB)
      clear hB c0 c1 c2 c3 hbb
      generalize wr.alloc (.cells #[.int .i64 p.fr, .int .i32 p.tp, .int .i64 p.ct, .string ⟨(encs p.tx).toArray⟩] 69) = w1 at *
      generalize wr.heap.size = pb at *
      obtain ⟨z0, z1, z2, z3⟩ := cells4 (P.out)
      have T1 := Lib.hid (hT.out.below K.out)
      go_upto_region 7 with (go_at_call 102; (with_reducible refine (PR.out _ T1).mono ?_); rintro e w2 ⟨r, rfl, hro, hrv, hb2⟩; have HRO := Lib.hid hro; have HRV := Lib.hid hrv; have HB2 := Lib.hid hb2; clear hro hrv hb2 z0 z1 z2 z3)
      have hwb : rb + 2 ≤ w1.heap.size := by have := (Array.getElem?_eq_some_iff.1 F.out).1; omega
      replace V4 := Lib.hid (V4.out.below HB2.out)
      replace V5 := Lib.hid (V5.out.below HB2.out)
      have RQ : Hid (∀ q ∈ r :: S, RvIn w2 (rb + 2) q) := Lib.hid (fun q hq => by
        rcases List.mem_cons.1 hq with rfl | hq
        · exact HRV.out.base hwb
        · exact (RI.out q hq).below HB2.out)
      replace X := Lib.hid (block_below X.out HB2.out)
      replace F := Lib.hid (block_below F.out HB2.out)
      replace K := Lib.hid (nextB K.out HB2.out)
      clear RI HRV HB2 P hwb
      have hwb : rb + 2 ≤ w2.heap.size := by have := (Array.getElem?_eq_some_iff.1 F.out).1; omega
      have R := Lib.hid (at_a0 w2 #[.int .i64 r.fr, .int .i64 r.ct, .int .i32 r.tp, .slice r.sa r.sg.length r.cp] 108)
      have hB := (Below.refl w2.heap.size w2).alloc (Nat.le_refl _) (.cells #[.int .i64 r.fr, .int .i64 r.ct, .int .i32 r.tp, .slice r.sa r.sg.length r.cp] 108)
      replace V4 := Lib.hid (V4.out.below hB)
      replace V5 := Lib.hid (V5.out.below hB)
      replace RQ := Lib.hid (fun q hq => (RQ.out q hq).below hB)
      replace X := Lib.hid (block_below X.out hB)
      replace F := Lib.hid (block_below F.out hB)
      replace K := Lib.hid (nextB K.out hB)
      clear hB
      generalize w2.alloc (.cells #[.int .i64 r.fr, .int .i64 r.ct, .int .i32 r.tp, .slice r.sa r.sg.length r.cp] 108) = w3 at *
      generalize w2.heap.size = kb at *
      have hrin := (RQ.out r List.mem_cons_self).1
      have RE := Lib.hid (fun w => rend_any r w (by omega) (by omega))
      obtain ⟨a5, c5, hv5, hc5, hg5⟩ := V5.out.view
      rw [List.length_map] at hv5 hc5
      have HG : Hid (M.length = 0 ∨ ∃ g, a5 = some ⟨g, 0, none⟩) := Lib.hid (by
        rcases hg5 with h | ⟨g, h, -⟩
        · exact .inl (by simpa using h)
        · exact .inr ⟨g, h⟩)
      clear hg5
      subst hv5
      obtain ⟨y0, y1, y2, y3⟩ := cells4 (R.out)
      go_upto_if 35 with (go_at_call 68; (with_reducible refine (RE.out _).mono ?_); rintro e w4 ⟨rfl, hb4⟩; have HB4 := Lib.hid hb4; clear hb4)
      replace V4 := Lib.hid (V4.out.below HB4.out)
      replace V5 := Lib.hid (V5.out.below HB4.out)
      replace RQ := Lib.hid (fun q hq => (RQ.out q hq).below HB4.out)
      replace X := Lib.hid (block_below X.out HB4.out)
      replace F := Lib.hid (block_below F.out HB4.out)
      replace R := Lib.hid (block_below R.out HB4.out)
      replace K := Lib.hid (nextB K.out HB4.out)
      have hct : 1 ≤ r.ct := by rw [HRO.out.2.1]; exact hpn
      have hwb4 : rb + 2 ≤ w4.heap.size := by have := (Array.getElem?_eq_some_iff.1 F.out).1; omega
      clear HB4 y0 y1 y2 y3
      have HM2 := Lib.hid (HM.out.start r.fr)
      go_cut [5, 35] from 36 to 38 (fun s5 s35 wx => ∃ (g m c : Nat) (M2 : List Bool), s5 = .slice (some ⟨g, 0, none⟩) m c ∧ Hid (m = M2.length) ∧ r.fr + r.ct ≤ m ∧ m ≤ 1048576 ∧ Hid (Marks S r.fr r.fr M2) ∧ Hid (Recs wx (rb + 2) 108 4 u4 (S.map rvR)) ∧ Hid (Recs wx (rb + 2) 4 1 (.slice (some ⟨g, 0, none⟩) m c) (M2.map boR)) ∧ Hid (∀ q ∈ r :: S, RvIn wx (rb + 2) q) ∧ Hid (wx.heap[rb]? = some (.cells #[.slice none 0 0] 43 (0, 0))) ∧ Hid (wx.heap[rb + 1]? = some (.cells #[.int .i64 0, .int .i64 0] 26 (0, 0))) ∧ Hid (wx.heap[kb]? = some (.cells #[.int .i64 r.fr, .int .i64 r.ct, .int .i32 r.tp, .slice r.sa r.sg.length r.cp] 108 (0, 0))) ∧ Hid (Below w.heap.size w wx))
      case first =>
        by_cases hgr : M.length < r.fr + r.ct
        · have g1 : (M.length : Int) < (r.fr : Int) + r.ct := by omega
          have ek : (r.fr : Int) + r.ct - M.length = ((r.fr + r.ct - M.length : Nat) : Int) := by omega
          have EK := Lib.hid ek
          clear ek
          go_wp2_with (at_builtin; refine wpList_zeros w4 rfl (.tmp 36) (.tmp 37) 138 3 rfl (rb + 2) 4 .i64 .i64 Tryz.underlying138 Tryz.underlying3 info_bool (.slice a5 M.length c5) M (r.fr + r.ct - M.length) (by rfl) (by rw [← EK.out]; rfl) V5.out (by omega) (by omega) hwb4 ?_; intro v5 w5 hr5 hg5; have HR5 := Lib.hid hr5; have HG5 := Lib.hid hg5; clear hr5 hg5)
          go_meet
          have a1 : (Value.slice a5 M.length c5).ownBlock = none ∨ (Value.slice a5 M.length c5).ownBlock ≠ some kb := .inr (recs_off V5.out R.out (by decide))
          have hl5 := V5.out.lt
          have hz := EK.out
          obtain ⟨g, cq, hv, hcq, hgq⟩ : ∃ g cq, v5 = .slice (some ⟨g, 0, none⟩) (M ++ List.replicate (r.fr + r.ct - M.length) false).length cq ∧ True ∧ True := by
            obtain ⟨aq, cq, h1, -, h2⟩ := HR5.out.view
            rw [List.length_map] at h1
            rcases h2 with h2 | ⟨g, h2, -⟩
            · simp at h2; omega
            · exact ⟨g, cq, by rw [h1, h2], trivial, trivial⟩
          subst hv
          have KG := Lib.hid (pk_grown (Below.refl (rb + 2) w4) HG5.out (fun k e => (hl5 k e).1) hwb4)
          refine ⟨g, _, cq, _, rfl, Lib.hid rfl, by simp; omega, by simp; omega, Lib.hid (HM2.out.grow _ (by omega)), Lib.hid (V4.out.kept HG5.out (recs_apart' V4.out V5.out (by decide))), HR5, Lib.hid (fun q hq => (RQ.out q hq).kept V5.out (by decide) HG5.out), Lib.hid ((KG.out.block rb (by omega)).trans X.out), Lib.hid ((KG.out.block (rb + 1) (by omega)).trans F.out), Lib.hid ((HG5.out.block kb (Array.getElem?_eq_some_iff.1 R.out).1 (fun e => recs_off V5.out R.out (by decide) e.symm)).trans R.out), Lib.hid (K.out.trans (KG.out.mono (by have := HRB.out; omega)))⟩
        · have g1 : ¬ (M.length : Int) < (r.fr : Int) + r.ct := by omega
          go_wp2
          go_meet
          rcases HG.out with h0 | ⟨g, hg⟩
          · omega
          · subst hg
            exact ⟨g, _, _, M, rfl, Lib.hid rfl, by omega, hMn, HM2, V4, V5, RQ, X, F, R, K⟩
      case rest =>
        clear V4 V5 RQ X F R K HM2 HM HG hc5
        obtain ⟨g, m, cq, M2, rfl, HM2l, hrm, hm9, HM2, V4, V5, RQ, X, F, R, K⟩ := hcut
        go_step
        have HROL : Hid (RowOf L[S.length] r) := Lib.hid (by rw [← HP.out]; exact HRO.out)
        have hS6 : S.length ≤ 1000000 := by omega
        have hwr : w.heap.size ≤ rb := by rw [HRB.out]; exact Nat.le_refl _
        refine new_tail HM2l.out hct hrm hm9 hS6 hwb hwr HM2 (Lib.hid (fun M' j hl hm hj hj2 hj3 => free_of hd.out HS.out hSL HROL.out hm hj hj2 hj3)) V4 V5 RQ X F R K ?_
        clear HM2 V4 V5 RQ X F R K HM2l hrm hwr
        intro M' w5 x4 x11 x39 x40 x41 x42 x43 x44 x45 x46 x47 x48 x49 x50 x51 x52 x53 x54 x55 x56 x57 x58 x59 x60 hl5 hm5 V4 V5 RQ X F K
        have HM5 := Lib.hid hm5
        have HL5 := Lib.hid hl5
        clear hm5 hl5
        go_step
        go_wp2
        refine ⟨⟨S ++ [r], M', by simp; omega, by have := HL5.out; omega, by simp, Lib.hid (rowsOf_snoc HS.out hSL HROL.out), HM5, RQ, V4, V5, X, F, K⟩, by simp [intOf]; omega⟩
    · have g0 : ¬ (S.length : Int) < n := by omega
      have hSe : S.length = n := by omega
      have HSE := Lib.hid hSe
      obtain ⟨a4, c4, hv4, hc4, hg4⟩ := V4.out.view
      rw [List.length_map] at hv4 hc4
      obtain ⟨g, hga⟩ : ∃ g, a4 = some ⟨g, 0, none⟩ := by
        rcases hg4 with h | ⟨g, h, -⟩
        · rw [List.length_map] at h
          omega
        · exact ⟨g, h⟩
      subst hga
      subst hv4
      clear hg4 hSe
      have BF := Lib.hid (byfrom_any (rb + 2) g c4 S.length S wr rfl (by omega) V4.out)
      go_upto_region 21 with (go_at_call 103; (with_reducible refine BF.out.mono ?_); rintro e w2 ⟨rfl, L', hp, hs, hr, ho⟩; have HPe := Lib.hid hp; have HSo := Lib.hid hs; have HRe := Lib.hid hr; have HOn := Lib.hid ho; clear hp hs hr ho)
      have hg2 := (V4.out.lt g rfl).1
      have hwr : w.heap.size ≤ rb := by rw [HRB.out]; exact Nat.le_refl _
      have RI2 : Hid (∀ q ∈ S, RvIn w2 (rb + 2) q) := Lib.hid (fun q hq => (RI.out q hq).kept V4.out (by decide) HOn.out)
      have X2 := Lib.hid (block_only X.out HOn.out (by omega))
      have F2 := Lib.hid (block_only F.out HOn.out (by omega))
      have K2 := Lib.hid (onlyB K.out HOn.out (by omega))
      clear X F K RI V4 V5 HOn
      have x0 : w2.cell? ⟨rb, 0, none⟩ = some (.slice none 0 0) := by rw [cell_at X2.out]; rfl
      have xf0 : w2.frozen? ⟨rb, 0, none⟩ = false := free_at X2.out
      obtain ⟨f0, f1⟩ := cells2 (F2.out); obtain ⟨ff0, ff1⟩ := frees2 (F2.out)
      go_wp2
      have hgl : g ≠ rb := by omega
      have hgl1 : g ≠ rb + 1 := by omega
      have hLl : L'.length = S.length := HPe.out.length_eq
      clear x0 xf0 f0 f1 ff0 ff1
      generalize hsv : Value.slice (some ⟨g, 0, none⟩) S.length c4 = sv at *
      have X3 : (w2.setCell ⟨rb, 0, none⟩ sv).heap[rb]? = some (.cells #[sv] 43 (0, 0)) := setCell_at (j := 0) (v := sv) X2.out
      have F3 : (w2.setCell ⟨rb, 0, none⟩ sv).heap[rb + 1]? = some (.cells #[.int .i64 0, .int .i64 0] 26 (0, 0)) := (heap_set_other _ (by omega)).trans F2.out
      have F4 : ((w2.setCell ⟨rb, 0, none⟩ sv).setCell ⟨rb + 1, 0, none⟩ (.int .i64 0)).heap[rb + 1]? = some (.cells #[.int .i64 0, .int .i64 0] 26 (0, 0)) := setCell_at (j := 0) (v := .int .i64 0) F3
      have F5 : (((w2.setCell ⟨rb, 0, none⟩ sv).setCell ⟨rb + 1, 0, none⟩ (.int .i64 0)).setCell ⟨rb + 1, 1, none⟩ (.int .i64 0)).heap[rb + 1]? = some (.cells #[.int .i64 0, .int .i64 0] 26 (0, 0)) := setCell_at (j := 1) (v := .int .i64 0) F4
      have X5 : (((w2.setCell ⟨rb, 0, none⟩ sv).setCell ⟨rb + 1, 0, none⟩ (.int .i64 0)).setCell ⟨rb + 1, 1, none⟩ (.int .i64 0)).heap[rb]? = some (.cells #[sv] 43 (0, 0)) := (heap_set_other _ (by omega)).trans ((heap_set_other _ (by omega)).trans X3)
      refine end_cc (by rfl) rfl (by rfl) X5 Tryz.underlying43 rfl (by kernel_rfl) (by rfl) F5 Tryz.underlying26 rfl (by kernel_rfl) ?_
      refine ⟨sv, L', rfl, ⟨⟨some ⟨g, 0, none⟩, c4, by rw [hLl]; exact hsv.symm, by rw [hLl]; exact hc4, by rw [hLl]; exact ((HRe.out.setOther hgl).setOther hgl1).setOther hgl1, fun q hq => ((((RI2.out q (HPe.out.mem_iff.1 hq)).setOlder (by omega)).setOlder (by omega)).setOlder (by omega)).ok⟩, (fun k hk => by rw [← hsv] at hk; cases hk; show w.heap.size ≤ g; omega), fun q hq k hk => by have := (RI2.out q (HPe.out.mem_iff.1 hq)).own k hk; omega⟩, ⟨S, HPe.out, by rw [HSE.out, HL.out], HS.out, HSo.out⟩, ((K2.out.setCell (show w.heap.size ≤ rb by omega) _).setCell (show w.heap.size ≤ rb + 1 by omega) _).setCell (show w.heap.size ≤ rb + 1 by omega) _⟩
end Go.Proofs.YtffhmjlojmoomaaGreatDoor

namespace Go.Proofs.YtffhmjlojmoomaaGreatDoor
open Go.RowKit
set_option linter.unusedVariables false
set_option linter.unusedSimpArgs false

/-- where a sign first stands in a row -/
def rwCode (r : Rv) (p : Nat) : Option Nat := (rwS r).findIdx? (· == p)
theorem rwCode_some {r : Rv} {p k : Nat} (h : rwCode r p = some k) : ∃ hk : k < (rwS r).length, (rwS r)[k] = p ∧ ∀ j (hj : j < k), (rwS r)[j]'(by omega) ≠ p := by
  unfold rwCode at h
  rw [List.findIdx?_eq_some_iff_getElem] at h
  obtain ⟨hk, h1, h2⟩ := h
  exact ⟨hk, by simpa using h1, fun j hj => by simpa using h2 j hj⟩
theorem rwCode_none {r : Rv} {p : Nat} (h : rwCode r p = none) : p ∉ rwS r := by
  unfold rwCode at h
  rw [List.findIdx?_eq_none_iff] at h
  intro hp
  simpa using h p hp
theorem rwCode_seq {r : Rv} (h : r.sg = []) (p : Nat) : rwCode r p = if r.tp ≤ p ∧ p < r.tp + r.ct then some (p - r.tp) else none := by
  have hs : rwS r = (List.range r.ct).map (r.tp + ·) := by unfold rwS; rw [if_pos h]
  split
  · unfold rwCode
    rw [List.findIdx?_eq_some_iff_getElem]
    refine ⟨by rw [hs]; simp; omega, ?_, fun j hj => ?_⟩
    · simp only [hs]; simp; omega
    · simp only [hs]; simp; omega
  · unfold rwCode
    rw [List.findIdx?_eq_none_iff]
    intro x hx
    rw [hs] at hx
    simp only [List.mem_map, List.mem_range] at hx
    obtain ⟨i, hi, rfl⟩ := hx
    simp
    omega
theorem rwCode_list {r : Rv} (h : r.sg ≠ []) (p : Nat) : (rwCode r p = none ∧ Lib.idxBy (fun x y : Int => x == y) ((r.sg.map (fun x : Nat => (x : Int))).take r.sg.length) (p : Int) = -1) ∨ ∃ k, rwCode r p = some k ∧ k < r.sg.length ∧ Lib.idxBy (fun x y : Int => x == y) ((r.sg.map (fun x : Nat => (x : Int))).take r.sg.length) (p : Int) = k := by
  have hs : rwS r = r.sg := by unfold rwS; rw [if_neg h]
  have hg : ∀ j, j < r.sg.length → (r.sg.map (fun x : Nat => (x : Int)))[j]! = ((r.sg[j]! : Nat) : Int) := fun j hj => by
    rw [getElem!_pos _ _ (by simpa using hj), getElem!_pos r.sg j hj]; simp
  rcases hc : rwCode r p with _ | k
  · refine .inl ⟨rfl, Lib.idxBy_miss _ _ _ _ (fun j hj => ?_)⟩
    have h1 := rwCode_none hc
    rw [hg j hj, getElem!_pos r.sg j hj]
    rw [hs] at h1
    simp only [beq_eq_false_iff_ne]
    intro e
    exact h1 (by have : p = r.sg[j] := by omega
                 rw [this]; exact List.getElem_mem hj)
  · obtain ⟨hk, h1, h2⟩ := rwCode_some hc
    simp only [hs] at hk h1 h2
    refine .inr ⟨k, rfl, hk, Lib.idxBy_hit _ _ _ _ _ hk (by simp) ?_ (fun j hj => ?_)⟩
    · rw [hg k hk, getElem!_pos r.sg k hk, h1]; simp
    · rw [hg j (by omega), getElem!_pos r.sg j (by omega)]
      simp only [beq_eq_false_iff_ne]
      intro e
      exact h2 j hj (by omega)
set_option maxHeartbeats 2000000 in
set_option maxRecDepth 100000 in
theorem rcode_list (r : Rv) (p : Nat) (w : World) (h : Hid (RvOk w r)) (hne : r.sg ≠ []) :
    Calls Tryz.prog 113 #[.agg #[.int .i64 r.fr, .int .i64 r.ct, .int .i32 r.tp, .slice r.sa r.sg.length r.cp], .int .i32 p] w fun e w' => ∃ c : Int, e = .returned (.tuple #[.int .i64 c, .bool (rwCode r p).isSome]) ∧ (∀ k, rwCode r p = some k → c = ((r.fr + k : Nat) : Int)) ∧ Below w.heap.size w w' := by
  have hfr := h.out.1
  have hct := h.out.2.1
  obtain ⟨b, off, hsa, hcp, hbb, hcell⟩ : ∃ b off, r.sa = some ⟨b, off, none⟩ ∧ r.sg.length ≤ r.cp ∧ b < w.heap.size ∧ ∀ i (h : i < r.sg.length), w.cell? ⟨b, off + i, none⟩ = some (.int .i32 (r.sg[i] : Nat)) := by
    rcases h.out.2.2 with h0 | ⟨_, _, b, off, h1, h2, h3, h4⟩
    · exact absurd h0.1 hne
    · exact ⟨b, off, h1, h2, h3, h4⟩
  have hlen : r.sg.length ≤ 1048576 := by
    rcases h.out.2.2 with h0 | ⟨_, h1, _⟩
    · exact absurd h0.1 hne
    · omega
  have K := Lib.hid ((Below.refl w.heap.size w).alloc (Nat.le_refl _) (.cells #[.int .i64 r.fr, .int .i64 r.ct, .int .i32 r.tp, .slice r.sa r.sg.length r.cp] 108))
  have R := Lib.hid (at_a0 w #[.int .i64 r.fr, .int .i64 r.ct, .int .i32 r.tp, .slice r.sa r.sg.length r.cp] 108)
  have CE := Lib.hid (fun i (h : i < r.sg.length) => (K.out.cell (p := ⟨b, off + i, none⟩) hbb).trans (hcell i h))
  rw [hsa] at R K CE ⊢
  have hfi : (r.fr : Int) ≤ 1048576 := by omega
  have hli : (r.sg.length : Int) ≤ 1048576 := by omega
  have L := Lib.hid (rwCode_list hne p)
  clear h hcell hct hsa
  go_enter Tryz.func113, Tryz.ntmps113
  go_upto_region 1 with (fail)
  generalize w.alloc (.cells #[.int .i64 r.fr, .int .i64 r.ct, .int .i32 r.tp, .slice (some ⟨b, off, none⟩) r.sg.length r.cp] 108) = w1 at *
  obtain ⟨rb, hrb⟩ : ∃ rb, rb = w.heap.size := ⟨_, rfl⟩
  rw [← hrb] at R
  rw [← hrb]
  clear hrb
  obtain ⟨y0, y1, y2, y3⟩ := cells4 (R.out)
  have IX := Lib.hid (AnyE.slices_Index (P := Tryz.prog) Tryz.laysIX (Value.int .i32) (fun x y : Int => x == y) (EqlAt.int _ _ _) b off r.sg.length r.cp (r.sg.map (fun x : Nat => (x : Int))) (p : Int) w1 (by simp) (by omega) (fun j hj => by
    have hj' : j < r.sg.length := by simpa using hj
    rw [CE.out j hj', getElem!_pos (r.sg.map (fun x : Nat => (x : Int))) j hj]; simp))
  rcases L.out with ⟨h1, h2⟩ | ⟨k, h1, hk, h2⟩
  · rw [h2] at IX
    have H1 := Lib.hid h1
    clear h1 h2 L
    go_wp2_with (go_at_call 142; refine (Calls.mono IX.out ?_); rintro e w2 ⟨rfl, rfl⟩)
    go_ret2
    exact ⟨_, by rw [H1.out]; rfl, (fun k hk => by rw [H1.out] at hk; cases hk), K.out⟩
  · rw [h2] at IX
    have H1 := Lib.hid h1
    have hki : (k : Int) ≤ 1048576 := by omega
    clear h1 h2 L
    go_wp2_with (go_at_call 142; refine (Calls.mono IX.out ?_); rintro e w2 ⟨rfl, rfl⟩)
    go_ret2
    exact ⟨_, by rw [H1.out]; rfl, (fun k' hk => by rw [H1.out] at hk; cases hk; simp), K.out⟩
end Go.Proofs.YtffhmjlojmoomaaGreatDoor

namespace Go.Proofs.YtffhmjlojmoomaaGreatDoor
open Go.RowKit
set_option linter.unusedVariables false
set_option linter.unusedSimpArgs false

theorem belowN {B : Nat} {w w' : World} (h : Below B w w') (n : Nat) : Below B w (w'.drewN n) := ⟨h.os, h.tape, h.output, h.size, h.block⟩
set_option maxHeartbeats 2000000 in
set_option maxRecDepth 100000 in
theorem rcode_seq (r : Rv) (p : Nat) (hp : p ≤ 1114111) (w : World) (h : Hid (RvOk w r)) (hne : r.sg = []) :
    Calls Tryz.prog 113 #[.agg #[.int .i64 r.fr, .int .i64 r.ct, .int .i32 r.tp, .slice r.sa r.sg.length r.cp], .int .i32 p] w fun e w' => ∃ c : Int, e = .returned (.tuple #[.int .i64 c, .bool (rwCode r p).isSome]) ∧ (∀ k, rwCode r p = some k → c = ((r.fr + k : Nat) : Int)) ∧ Below w.heap.size w w' := by
  have hfr := h.out.1
  obtain ⟨hsa, hcp, htp⟩ : r.sa = none ∧ r.cp = 0 ∧ r.tp + r.ct ≤ 1114112 := by
    rcases h.out.2.2 with h0 | ⟨h1, _⟩
    · exact h0.2
    · exact absurd hne h1
  have HC := Lib.hid (rwCode_seq hne p)
  have hl0 : r.sg.length = 0 := by rw [hne]; rfl
  rw [hsa, hcp, hl0]
  generalize hrc : rwCode r p = rc at *
  clear h hsa hcp hl0 hrc hne
  have K := Lib.hid ((Below.refl w.heap.size w).alloc (Nat.le_refl _) (.cells #[.int .i64 r.fr, .int .i64 r.ct, .int .i32 r.tp, .slice none (0 : Nat) (0 : Nat)] 108))
  have R := Lib.hid (at_a0 w #[.int .i64 r.fr, .int .i64 r.ct, .int .i32 r.tp, .slice none (0 : Nat) (0 : Nat)] 108)
  have hfi : (r.fr : Int) ≤ 1048576 := by omega
  have hpi : (p : Int) ≤ 1114111 := by omega
  have hti : (r.tp : Int) ≤ 1114112 := by omega
  have ws : IntKind.i32.wrap ((p : Int) - (r.tp : Int)) = (p : Int) - (r.tp : Int) := by simp [IntKind.wrap, IntKind.bits, IntKind.signed]; omega
  go_enter Tryz.func113, Tryz.ntmps113
  go_upto_region 1 with (fail)
  generalize w.alloc (.cells #[.int .i64 r.fr, .int .i64 r.ct, .int .i32 r.tp, .slice none (0 : Nat) (0 : Nat)] 108) = w1 at *
  obtain ⟨rb, hrb⟩ : ∃ rb, rb = w.heap.size := ⟨_, rfl⟩
  rw [← hrb] at R
  rw [← hrb]
  clear hrb
  obtain ⟨y0, y1, y2, y3⟩ := cells4 (R.out)
  by_cases h1 : r.tp ≤ p
  · have d1 : decide ((r.tp : Int) ≤ (p : Int)) = true := decide_eq_true (by omega)
    by_cases h2 : p < r.tp + r.ct
    · have d2 : decide ((p : Int) - (r.tp : Int) < (r.ct : Int)) = true := decide_eq_true (by omega)
      go_upto_region 4 with (fail)
      go_quiet (fail)
      go_wp2
      go_ret2
      exact ⟨_, by rw [HC.out, if_pos ⟨h1, h2⟩]; rfl, (fun k hk => by rw [HC.out, if_pos ⟨h1, h2⟩] at hk; cases hk; omega), belowN K.out _⟩
    · have d2 : decide ((p : Int) - (r.tp : Int) < (r.ct : Int)) = false := decide_eq_false (by omega)
      go_upto_region 4 with (fail)
      go_quiet (fail)
      go_wp2
      go_ret2
      exact ⟨_, by rw [HC.out, if_neg (by omega)]; rfl, (fun k hk => by rw [HC.out, if_neg (by omega)] at hk; cases hk), belowN K.out _⟩
  · have d1 : decide ((r.tp : Int) ≤ (p : Int)) = false := decide_eq_false (by omega)
    go_upto_region 4 with (fail)
    go_quiet (fail)
    go_wp2
    go_ret2
    exact ⟨_, by rw [HC.out, if_neg (by omega)]; rfl, (fun k hk => by rw [HC.out, if_neg (by omega)] at hk; cases hk), belowN K.out _⟩
theorem rcode_any (r : Rv) (p : Nat) (hp : p ≤ 1114111) (w : World) (h : Hid (RvOk w r)) :
    Calls Tryz.prog 113 #[.agg #[.int .i64 r.fr, .int .i64 r.ct, .int .i32 r.tp, .slice r.sa r.sg.length r.cp], .int .i32 p] w fun e w' => ∃ c : Int, e = .returned (.tuple #[.int .i64 c, .bool (rwCode r p).isSome]) ∧ (∀ k, rwCode r p = some k → c = ((r.fr + k : Nat) : Int)) ∧ Below w.heap.size w w' := by
  by_cases hne : r.sg = []
  · exact rcode_seq r p hp w h hne
  · exact rcode_list r p w h hne
end Go.Proofs.YtffhmjlojmoomaaGreatDoor

namespace Go.Proofs.YtffhmjlojmoomaaGreatDoor
open Go.RowKit
set_option linter.unusedVariables false
set_option linter.unusedSimpArgs false

/-- the code of a sign in a table -/
def tabCode (S : List Rv) (p : Nat) : Option Nat := S.findSome? (fun r => (rwCode r p).map (r.fr + ·))
theorem tabCode_cons (r : Rv) (S : List Rv) (p : Nat) : tabCode (r :: S) p = match rwCode r p with | some k => some (r.fr + k) | none => tabCode S p := by
  unfold tabCode
  rw [List.findSome?_cons]
  rcases rwCode r p with _ | k <;> rfl
set_option maxHeartbeats 4000000 in
set_option maxRecDepth 100000 in
theorem reverse_any (S : List Rv) (v : Value) (p : Nat) (hp : p ≤ 1114111) (w : World) (hn : S.length ≤ 3000000) (h : Hid (TabAt w v S)) :
    Calls Tryz.prog 74 #[.agg #[v], .int .i32 p] w fun e w' => e = .returned (.tuple #[.int .i64 (((tabCode S p).getD 0 : Nat) : Int), .bool (tabCode S p).isSome]) ∧ Below w.heap.size w w' := by
  obtain ⟨a, cap, rfl, hcap, hs, hrv⟩ := h.out
  have HS := Lib.hid hs
  have HR := Lib.hid hrv
  clear h hs hrv
  have hni : (S.length : Int) ≤ 3000000 := by omega
  have K := Lib.hid ((Below.refl w.heap.size w).alloc (Nat.le_refl _) (.cells #[.slice a S.length cap] 43))
  have X := Lib.hid (at_a0 w #[.slice a S.length cap] 43)
  obtain ⟨rb, hrb⟩ : ∃ rb, rb = w.heap.size := ⟨_, rfl⟩
  go_enter Tryz.func74, Tryz.ntmps74
  go_upto_region 1 with (fail)
  generalize w.alloc (.cells #[.slice a S.length cap] 43) = w0 at *
  rw [← hrb] at X
  rw [← hrb]
  have HRB := Lib.hid hrb
  clear hrb
  have x0 : w0.cell? ⟨rb, 0, none⟩ = some (.slice a S.length cap) := by rw [cell_at X.out]; rfl
  go_wp2
  go_loopw [13] (fun i wr => ∃ k : Nat, k ≤ S.length ∧ i = .int .i64 k ∧ Hid (tabCode S p = tabCode (S.drop k) p) ∧ Hid (Below w.heap.size w wr)) (fun i _ => S.length - (intOf i).toNat)
  case atStart => exact ⟨0, by omega, rfl, Lib.hid rfl, K⟩
  case round =>
    clear X K x0
    obtain ⟨k, hk, rfl, HE, K⟩ := hrel
    by_cases hlt : k < S.length
    · have g0 : (k : Int) < S.length := by omega
      have hRA := HS.out.below K.out
      have hrk := (HR.out S[k] (List.getElem_mem hlt)).below K.out
      obtain ⟨b, off, rfl, hbb, hc⟩ : ∃ b off, a = some ⟨b, off, none⟩ ∧ b < wr.heap.size ∧ ∀ j, j < 4 → wr.cell? ⟨b, off + (k * 4 + j), none⟩ = (rvR S[k])[j]? := by
        rcases hRA.2.2 with h0 | ⟨b, off, ha, hb, hc⟩
        · omega
        · exact ⟨b, off, ha, hb, fun j hj => by rw [hc k (by simpa using hlt) j hj]; simp⟩
      have c0 : wr.cell? ⟨b, off + k * 4, none⟩ = some (.int .i64 S[k].fr) := hc 0 (by decide)
      have c1 : wr.cell? ⟨b, off + k * 4 + 1, none⟩ = some (.int .i64 S[k].ct) := hc 1 (by decide)
      have c2 : wr.cell? ⟨b, off + k * 4 + 2, none⟩ = some (.int .i32 S[k].tp) := hc 2 (by decide)
      have c3 : wr.cell? ⟨b, off + k * 4 + 3, none⟩ = some (.slice S[k].sa S[k].sg.length S[k].cp) := hc 3 (by decide)
      have hdr : S.drop k = S[k] :: S.drop (k + 1) := List.drop_eq_getElem_cons hlt
      rw [hdr, tabCode_cons] at HE
      clear hc hRA hdr
      generalize S[k] = r at *
      have HK := Lib.hid hrk
      clear hrk
      go_upto_region 4 with (fail)
      have hB := (Below.refl wr.heap.size wr).alloc (Nat.le_refl _) (.cells #[.int .i64 r.fr, .int .i64 r.ct, .int .i32 r.tp, .slice r.sa r.sg.length r.cp] 108)
      have R := Lib.hid (at_a0 wr #[.int .i64 r.fr, .int .i64 r.ct, .int .i32 r.tp, .slice r.sa r.sg.length r.cp] 108)
      replace K := Lib.hid (nextB K.out hB)
      have HK1 := Lib.hid (HK.out.below hB)
      clear hB c0 c1 c2 c3
      generalize wr.alloc (.cells #[.int .i64 r.fr, .int .i64 r.ct, .int .i32 r.tp, .slice r.sa r.sg.length r.cp] 108) = w1 at *
      generalize wr.heap.size = kb at *
      obtain ⟨y0, y1, y2, y3⟩ := cells4 (R.out)
      have RC := Lib.hid (rcode_any r p hp w1 HK1)
      rcases hrc : rwCode r p with _ | q
      · rw [hrc] at HE
        rw [hrc] at RC
        have HE' := Lib.hid HE.out
        simp only [] at HE'
        go_wp2_with (go_at_call 113; (with_reducible refine RC.out.mono ?_); rintro e w2 ⟨c, rfl, -, hb2⟩; replace K := Lib.hid (nextB K.out hb2); clear hb2)
        exact ⟨⟨k + 1, by omega, by simp, HE', K⟩, by simp [intOf]; omega⟩
      · rw [hrc] at HE
        rw [hrc] at RC
        have HE' := Lib.hid HE.out
        simp only [] at HE'
        go_wp2_with (go_at_call 113; (with_reducible refine RC.out.mono ?_); rintro e w2 ⟨c, rfl, hcq, hb2⟩; have HQ := Lib.hid (hcq q rfl); replace K := Lib.hid (nextB K.out hb2); clear hb2 hcq)
        go_ret2
        refine ⟨?_, K.out⟩
        rw [HE'.out, HQ.out]
        rfl
    · have g0 : ¬ (k : Int) < S.length := by omega
      have hd0 : S.drop k = [] := List.drop_eq_nil_of_le (by omega)
      have HE2 := Lib.hid (show tabCode S p = none by rw [HE.out, hd0]; rfl)
      clear HE hd0
      go_wp2
      go_ret2
      exact ⟨by rw [HE2.out]; rfl, K.out⟩
end Go.Proofs.YtffhmjlojmoomaaGreatDoor
