/- Layer 15 (tag): the document's Parse, walked (printed by gen_rf10.py). | Layer 15 (tag): the document's inner and Parse, joined. -/
import Derived.Test.YtmnmonmbdgedbaaRf8
import Derived.Test.YtmnmonmbdgedbaaRf9
import Derived.Test.YtmnmonmbdgedbaaTg11

namespace Go.Proofs.Ytmnmonmbdgedbaa
open Go.RowKit
set_option linter.unusedVariables false
set_option linter.unusedSimpArgs false

theorem end_cttt {P : Program} {fn : Func} {R : Ending → World → Prop} {a : Act} {w : World} {p1 u1 u2 u3 : Tmp} {ty1 t1 : TypeId} {b1 : Nat} {C1 : Array Value} {d1 : TypeDesc}
    (h : fn.results = #[.cell p1 ty1, .tmp u1, .tmp u2, .tmp u3]) (hd0 : a.defers = []) (hp1 : a.tmps.getD p1 undef = .pointer (some ⟨b1, 0, none⟩)) (hg1 : w.heap[b1]? = some (.cells C1 t1 (0, 0)))
    (hu1 : P.underlying ty1 = some d1) (hd1 : (match d1 with | .struct _ | .array _ _ => true | _ => false) = true) (hi1 : (P.info? ty1).map (·.size) = some C1.size)
    (hR : R (.returned (.tuple #[.agg C1, a.tmps.getD u1 undef, a.tmps.getD u2 undef, a.tmps.getD u3 undef])) w) : bodyPost P fn R .ret a w := by
  refine bodyPost_ret (v := .tuple #[.agg C1, a.tmps.getD u1 undef, a.tmps.getD u2 undef, a.tmps.getD u3 undef]) ?_ hd0 hR
  have hp1' : a.tmps[p1]?.getD undef = .pointer (some ⟨b1, 0, none⟩) := by simpa using hp1
  simp only [results, h]
  simp [hp1', asAddr, run_loadVar_row w b1 t1 ty1 C1 (0, 0) d1 hg1 hu1 hd1 hi1]
/-- the boxes of the document's Parse: the result, the reader, the tag -/
structure Qx (w0 w : World) (rb pb : Nat) (r : Rd) (v rv fl : Int) (u : Value) : Prop where
  z : w.heap[rb]? = some (.cells #[.int .i64 0, .int .i64 0, .int .i64 0, .slice none 0 0] 40 (0, 0))
  r : InAt 103 w pb r
  g : w.heap[pb + 1]? = some (.cells #[.int .i64 v, .int .i64 rv, .int .i64 fl, u] 40 (0, 0))
  k : Below w0.heap.size w0 w
  hw : w0.heap.size ≤ rb
  hr : rb < pb
section
variable {w0 w w' : World} {rb pb : Nat} {v rv fl : Int} {r : Rd} {u : Value}
theorem Qx.below (h : Qx w0 w rb pb r v rv fl u) (k : Below w.heap.size w w') : Qx w0 w' rb pb r v rv fl u := ⟨block_below h.z k, h.r.below k, block_below h.g k, nextB h.k k, h.hw, h.hr⟩
theorem Qx.drew (h : Qx w0 w rb pb r v rv fl u) : Qx w0 w.drew rb pb r v rv fl u := ⟨h.z, h.r, h.g, h.k.drew, h.hw, h.hr⟩
theorem Qx.lt (h : Qx w0 w rb pb r v rv fl u) : pb + 1 < w.heap.size := (Array.getElem?_eq_some_iff.1 h.g).1
theorem Qx.setr (h : Qx w0 w rb pb r v rv fl u) (x : Rd) : Qx w0 (((((w.setCell ⟨pb, 0, none⟩ (.string ⟨x.t.toArray⟩)).setCell ⟨pb, 1, none⟩ (.int .i64 x.nx)).setCell ⟨pb, 2, none⟩ (.int .i64 x.bs)).setCell ⟨pb, 3, none⟩ (.int .i64 x.cd)).setCell ⟨pb, 4, none⟩ (.int .i64 x.pl)) rb pb x v rv fl u := by
  have hw := h.hw
  have hr := h.hr
  have hl : w0.heap.size ≤ pb := by omega
  exact ⟨(set5_other x (by omega)).trans h.z, store5 h.r rfl, (set5_other x (by omega)).trans h.g, ((((h.k.setCell hl _).setCell hl _).setCell hl _).setCell hl _).setCell hl _, hw, hr⟩
theorem Qx.set2 (h : Qx w0 w rb pb r v rv fl u) (x : Int) : Qx w0 (w.setCell ⟨pb + 1, 2, none⟩ (.int .i64 x)) rb pb r v rv x u := by
  have hw := h.hw
  have hr := h.hr
  exact ⟨(heap_set_other _ (by omega)).trans h.z, (heap_set_other _ (by omega)).trans h.r, setCell_at h.g, Below.setCell (p := ⟨pb + 1, 2, none⟩) h.k (show w0.heap.size ≤ pb + 1 by omega) _, hw, hr⟩
theorem Qx.set3 (h : Qx w0 w rb pb r v rv fl u) (x : Value) : Qx w0 (w.setCell ⟨pb + 1, 3, none⟩ x) rb pb r v rv fl x := by
  have hw := h.hw
  have hr := h.hr
  exact ⟨(heap_set_other _ (by omega)).trans h.z, (heap_set_other _ (by omega)).trans h.r, setCell_at h.g, Below.setCell (p := ⟨pb + 1, 3, none⟩) h.k (show w0.heap.size ≤ pb + 1 by omega) _, hw, hr⟩
theorem Qx.fin (h : Qx w0 w rb pb r v rv fl u) (a b c : Int) (x : Value) : (stores w rb 0 [.int .i64 a, .int .i64 b, .int .i64 c, x]).heap[rb]? = some (.cells #[.int .i64 a, .int .i64 b, .int .i64 c, x] 40 (0, 0)) ∧ Below w0.heap.size w0 (stores w rb 0 [.int .i64 a, .int .i64 b, .int .i64 c, x]) :=
  ⟨store4 h.z rfl, (((h.k.setCell h.hw _).setCell h.hw _).setCell h.hw _).setCell h.hw _⟩
end
def RTP (V0 V1 V2 : Int) (L : List Fr) (rest : List UInt8) (c q : Int) (w : World) (e : Ending) (w' : World) : Prop := ∃ u, e = .returned (.tuple #[.agg #[.int .i64 V0, .int .i64 V1, .int .i64 V2, u], .string ⟨rest.toArray⟩, .int .i64 c, .int .i64 q]) ∧ Recs w' w.heap.size 100 6 u (L.map rfR) ∧ Below w.heap.size w w'
set_option maxHeartbeats 8000000 in
set_option maxRecDepth 100000 in
theorem rtparse_core (l body : List UInt8) (m1 m2 : Rd) (v : Int) (rv fl : Nat) (n : Int) (V0 V1 V2 : Int) (L : List Fr) (rest : List UInt8) (c q : Int) (w : World) (hfl : fl ≤ 255) (hll : l.length ≤ 1000000)
    (HD : Hid (∀ w, Calls Try.prog 67 #[.agg #[.string ⟨l.toArray⟩, .int .i64 3, .int .i64 0, .int .i64 0, .int .i64 0]] w fun e w' => e = .returned (.tuple #[.agg #[.string ⟨m1.t.toArray⟩, .int .i64 m1.nx, .int .i64 m1.bs, .int .i64 m1.cd, .int .i64 m1.pl], .agg #[.int .i64 v, .int .i64 (rv : Nat), .int .i64 (fl : Nat), .slice none 0 0], .int .i64 n]) ∧ Below w.heap.size w w'))
    (TK : Hid (∀ w, Calls Try.prog 68 #[.agg #[.string ⟨m1.t.toArray⟩, .int .i64 m1.nx, .int .i64 m1.bs, .int .i64 m1.cd, .int .i64 m1.pl], .int .i64 n] w fun e w' => e = .returned (.tuple #[.agg #[.string ⟨m2.t.toArray⟩, .int .i64 m2.nx, .int .i64 m2.bs, .int .i64 m2.cd, .int .i64 m2.pl], .string ⟨body.toArray⟩]) ∧ Below w.heap.size w w'))
    (HH : Hid ((m2.cd ≠ 0 ∧ V0 = 0 ∧ V1 = 0 ∧ V2 = 0 ∧ L = [] ∧ rest = [] ∧ c = m2.cd ∧ q = m2.pl) ∨ (m2.cd = 0 ∧ ∃ (whole : Bool) (body2 : List UInt8) (mi : Rd) (fs : List Fr),
      (v = 4 ∧ whole = false ∨ (v = 2 ∨ v = 3) ∧ Hid (∀ w, Calls Try.prog 28 #[.int .i64 (fl : Nat), .int .i64 128] w fun e w' => e = .returned (.bool whole) ∧ w = w')) ∧ (whole = true ∧ Hid (∀ w, Calls Try.prog 69 #[.string ⟨body.toArray⟩] w fun e w' => e = .returned (.string ⟨body2.toArray⟩) ∧ w = w') ∨ whole = false ∧ body2 = body) ∧
      Hid (∀ w, Calls Try.prog 70 #[.agg #[.int .i64 v, .int .i64 (rv : Nat), .int .i64 (fl : Nat), .slice none 0 0], .agg #[.string ⟨body2.toArray⟩, .int .i64 0, .int .i64 10, .int .i64 0, .int .i64 0]] w (RInner (mi, fs) w)) ∧
      ((mi.cd ≠ 0 ∧ V0 = 0 ∧ V1 = 0 ∧ V2 = 0 ∧ L = [] ∧ rest = [] ∧ c = mi.cd ∧ q = mi.pl) ∨ (mi.cd = 0 ∧ ∃ (foot : Bool) (m5 : Rd) (okw : Bool), (v = 4 ∧ Hid (∀ w, Calls Try.prog 28 #[.int .i64 (fl : Nat), .int .i64 16] w fun e w' => e = .returned (.bool foot) ∧ w = w') ∨ (v = 2 ∨ v = 3) ∧ foot = false) ∧ (foot = true ∧ 10 ≤ l.length ∧ Hid (∀ w, Calls Try.prog 71 #[.agg #[.string ⟨m2.t.toArray⟩, .int .i64 m2.nx, .int .i64 m2.bs, .int .i64 m2.cd, .int .i64 m2.pl], .string ⟨(51 :: 68 :: 73 :: (l.drop 3).take 7).toArray⟩] w fun e w' => e = .returned (.tuple #[.agg #[.string ⟨m5.t.toArray⟩, .int .i64 m5.nx, .int .i64 m5.bs, .int .i64 m5.cd, .int .i64 m5.pl], .bool okw]) ∧ Below w.heap.size w w') ∨ foot = false ∧ m5 = m2) ∧
        ((m5.cd ≠ 0 ∧ V0 = 0 ∧ V1 = 0 ∧ V2 = 0 ∧ L = [] ∧ rest = [] ∧ c = m5.cd ∧ q = m5.pl) ∨ (m5.cd = 0 ∧ m5.nx ≤ l.length ∧ ∃ b64 : Bool, Hid (∀ w, Calls Try.prog 28 #[.int .i64 (fl : Nat), .int .i64 64] w fun e w' => e = .returned (.bool b64) ∧ w = w') ∧ 64 ≤ fl + (if b64 then 0 else 64) ∧ v = V0 ∧ ((rv : Nat) : Int) = V1 ∧ (if b64 = true then (fl : Int) - 64 else (fl : Int)) = V2 ∧ fs = L ∧ (l.drop m5.nx).take (l.length - m5.nx) = rest ∧ c = 0 ∧ q = 0)))))))
    : Calls Try.prog 26 #[.string ⟨l.toArray⟩] w (RTP V0 V1 V2 L rest c q w) := by
  unfold RTP
  go_enter Try.func26, Try.ntmps26
  go_upto_region 2 with (go_at_call 67; (with_reducible refine (HD.out _).mono ?_); rintro e w1 ⟨rfl, hb1⟩; have K1 := Lib.hid hb1; clear hb1)
  have X : Hid (Qx w ((w1.alloc (.cells #[.string ⟨m1.t.toArray⟩, .int .i64 m1.nx, .int .i64 m1.bs, .int .i64 m1.cd, .int .i64 m1.pl] 103)).alloc (.cells #[.int .i64 v, .int .i64 (rv : Nat), .int .i64 (fl : Nat), .slice none 0 0] 40)) w.heap.size w1.heap.size m1 v (rv : Nat) (fl : Nat) (.slice none 0 0)) := by
    have k1 := K1.out
    have hs := k1.size
    have k2 : Below w.heap.size w w1 := below_a1 k1
    have k3 : Below w1.heap.size w1 ((w1.alloc (.cells #[.string ⟨m1.t.toArray⟩, .int .i64 m1.nx, .int .i64 m1.bs, .int .i64 m1.cd, .int .i64 m1.pl] 103)).alloc (.cells #[.int .i64 v, .int .i64 (rv : Nat), .int .i64 (fl : Nat), .slice none 0 0] 40)) := ((Below.refl _ _).alloc (Nat.le_refl _) _).alloc (by simp) _
    have z1 := block_below (at_a0 w #[.int .i64 0, .int .i64 0, .int .i64 0, .slice none 0 0] 40) k1
    exact Lib.hid ⟨block_below z1 k3, at_a1 w1 #[.string ⟨m1.t.toArray⟩, .int .i64 m1.nx, .int .i64 m1.bs, .int .i64 m1.cd, .int .i64 m1.pl] 103 _, at_a2 w1 #[.int .i64 v, .int .i64 (rv : Nat), .int .i64 (fl : Nat), .slice none 0 0] 40 _, nextB k2 k3, Nat.le_refl _, by simp at hs; omega⟩
  clear K1
  generalize (w1.alloc (.cells #[.string ⟨m1.t.toArray⟩, .int .i64 m1.nx, .int .i64 m1.bs, .int .i64 m1.cd, .int .i64 m1.pl] 103)).alloc (.cells #[.int .i64 v, .int .i64 (rv : Nat), .int .i64 (fl : Nat), .slice none 0 0] 40) = w2 at *
  generalize w1.heap.size = pb at *
  obtain ⟨rb, hrb⟩ : ∃ rb, rb = w.heap.size := ⟨_, rfl⟩
  rw [← hrb] at X
  rw [← hrb]
  have HRB := Lib.hid hrb
  clear hrb
  have hrp : rb < pb := X.out.hr
  have hpr : pb + 1 ≠ rb := by have := X.out.hr; omega
  have hpr2 : rb ≠ pb + 1 := by have := X.out.hr; omega
  have hpr3 : rb ≠ pb := by have := X.out.hr; omega
  have hpr4 : pb ≠ rb := by have := X.out.hr; omega
  have qa := X.out.r.all; obtain ⟨⟨q0, q1, q2, q3, q4⟩, qf0, qf1, qf2, qf3, qf4⟩ := qa; obtain ⟨t0, t1, t2, t3⟩ := cells4 (X.out.g); obtain ⟨tf0, tf1, tf2, tf3⟩ := frees4 (X.out.g); obtain ⟨z0, z1, z2, z3⟩ := cells4 (X.out.z); obtain ⟨zf0, zf1, zf2, zf3⟩ := frees4 (X.out.z)
  go_upto_region 3 with (go_at_call 68; (with_reducible refine (TK.out _).mono ?_); rintro e w3 ⟨rfl, hb⟩; clear q0 q1 q2 q3 q4 qf0 qf1 qf2 qf3 qf4 t0 t1 t2 t3 tf0 tf1 tf2 tf3 z0 z1 z2 z3 zf0 zf1 zf2 zf3; replace X := Lib.hid (X.out.below hb); clear hb; have qa := X.out.r.all; obtain ⟨⟨q0, q1, q2, q3, q4⟩, qf0, qf1, qf2, qf3, qf4⟩ := qa; obtain ⟨t0, t1, t2, t3⟩ := cells4 (X.out.g); obtain ⟨tf0, tf1, tf2, tf3⟩ := frees4 (X.out.g); obtain ⟨z0, z1, z2, z3⟩ := cells4 (X.out.z); obtain ⟨zf0, zf1, zf2, zf3⟩ := frees4 (X.out.z))
  replace X := Lib.hid (X.out.setr m2)
  clear q0 q1 q2 q3 q4 qf0 qf1 qf2 qf3 qf4 t0 t1 t2 t3 tf0 tf1 tf2 tf3 z0 z1 z2 z3 zf0 zf1 zf2 zf3
  generalize (((((w3.setCell ⟨pb, 0, none⟩ (.string ⟨m2.t.toArray⟩)).setCell ⟨pb, 1, none⟩ (.int .i64 m2.nx)).setCell ⟨pb, 2, none⟩ (.int .i64 m2.bs)).setCell ⟨pb, 3, none⟩ (.int .i64 m2.cd)).setCell ⟨pb, 4, none⟩ (.int .i64 m2.pl)) = w4 at *
  have qa := X.out.r.all; obtain ⟨⟨q0, q1, q2, q3, q4⟩, qf0, qf1, qf2, qf3, qf4⟩ := qa; obtain ⟨t0, t1, t2, t3⟩ := cells4 (X.out.g); obtain ⟨tf0, tf1, tf2, tf3⟩ := frees4 (X.out.g); obtain ⟨z0, z1, z2, z3⟩ := cells4 (X.out.z); obtain ⟨zf0, zf1, zf2, zf3⟩ := frees4 (X.out.z)
  have hH := HH.out
  clear HH
  rcases hH with ⟨hc, rfl, rfl, rfl, rfl, rfl, rfl, rfl⟩ | ⟨hc, whole, body2, mi, fs, HW, HDR, IN, HH⟩
  · have hcb : (m2.cd != 0) = true := by simpa using hc
    clear hc
    go_upto_region 4 with (fail)
    go_region
    all_goals (go_wp2; try simp only [Act.put, List.setIfInBounds_toArray, List.set_cons_zero, List.set_cons_succ, List.getElem_toArray, List.getElem_cons_zero, List.getElem_cons_succ])
    all_goals (obtain ⟨h8, hk⟩ := X.out.fin 0 0 0 (.slice none 0 0); exact end_cttt rfl rfl rfl (rf_block_drew h8) Try.underlying40 rfl (by kernel_rfl) (by exact ⟨_, rfl, Recs.nil _ _ _ _, hk.drew⟩))
  · have hcb : (m2.cd != 0) = false := by rw [hc]; rfl
    clear hc
    replace HH := Lib.hid HH
    replace HW := Lib.hid HW
    replace HDR := Lib.hid HDR
    go_upto_region 5 with (fail)
    go_cut [40] (fun s40 wx => s40 = .bool whole ∧ Hid (Qx w wx rb pb m2 v (rv : Nat) (fl : Nat) (.slice none 0 0)))
    case first =>
      rcases HW.out with ⟨rfl, rfl⟩ | ⟨rfl | rfl, BT⟩
      all_goals (
        go_wp2_with (go_at_call 28; (with_reducible refine (BT.out _).mono ?_); rintro e wx ⟨rfl, rfl⟩)
        go_meet
        exact ⟨rfl, X⟩)
    case rest =>
      obtain ⟨rfl, X2⟩ := hcut
      clear X
      clear q0 q1 q2 q3 q4 qf0 qf1 qf2 qf3 qf4 t0 t1 t2 t3 tf0 tf1 tf2 tf3 z0 z1 z2 z3 zf0 zf1 zf2 zf3
      have X := X2
      clear X2
      have qa := X.out.r.all; obtain ⟨⟨q0, q1, q2, q3, q4⟩, qf0, qf1, qf2, qf3, qf4⟩ := qa; obtain ⟨t0, t1, t2, t3⟩ := cells4 (X.out.g); obtain ⟨tf0, tf1, tf2, tf3⟩ := frees4 (X.out.g); obtain ⟨z0, z1, z2, z3⟩ := cells4 (X.out.z); obtain ⟨zf0, zf1, zf2, zf3⟩ := frees4 (X.out.z)
      go_upto_if 40 with (fail)
      go_cut [9] (fun s9 wx => s9 = .string ⟨body2.toArray⟩ ∧ Hid (Qx w wx rb pb m2 v (rv : Nat) (fl : Nat) (.slice none 0 0)))
      case first =>
        rcases HDR.out with ⟨rfl, DR⟩ | ⟨rfl, rfl⟩
        all_goals (
          go_wp2_with (go_at_call 69; (with_reducible refine (DR.out _).mono ?_); rintro e wx ⟨rfl, rfl⟩)
          go_meet
          exact ⟨rfl, X⟩)
      case rest =>
        obtain ⟨rfl, X2⟩ := hcut
        clear X
        clear q0 q1 q2 q3 q4 qf0 qf1 qf2 qf3 qf4 t0 t1 t2 t3 tf0 tf1 tf2 tf3 z0 z1 z2 z3 zf0 zf1 zf2 zf3
        have X := X2
        clear X2
        have qa := X.out.r.all; obtain ⟨⟨q0, q1, q2, q3, q4⟩, qf0, qf1, qf2, qf3, qf4⟩ := qa; obtain ⟨t0, t1, t2, t3⟩ := cells4 (X.out.g); obtain ⟨tf0, tf1, tf2, tf3⟩ := frees4 (X.out.g); obtain ⟨z0, z1, z2, z3⟩ := cells4 (X.out.z); obtain ⟨zf0, zf1, zf2, zf3⟩ := frees4 (X.out.z)
        go_upto_region 8 with (go_at_call 70; (with_reducible refine (IN.out _).mono ?_); rintro e w6 ⟨y, a, n9, cap, hy1, hy2, rfl, hV, hb⟩; have HY1 := Lib.hid hy1; have HY2 := Lib.hid hy2; clear hy1 hy2; clear q0 q1 q2 q3 q4 qf0 qf1 qf2 qf3 qf4 t0 t1 t2 t3 tf0 tf1 tf2 tf3 z0 z1 z2 z3 zf0 zf1 zf2 zf3; have hB := X.out.lt; replace X := Lib.hid (X.out.below hb); clear hb)
        obtain ⟨B, hBB⟩ : ∃ B, B = wc.heap.size := ⟨_, rfl⟩
        rw [← hBB] at hV hB
        clear hBB
        have Y := Lib.hid (at_a0 w6 #[.string ⟨y.t.toArray⟩, .int .i64 y.nx, .int .i64 y.bs, .int .i64 y.cd, .int .i64 y.pl] 103)
        have hyr : w6.heap.size ≠ rb := by have := X.out.lt; have := X.out.hr; omega
        have hyr2 : rb ≠ w6.heap.size := Ne.symm hyr
        have AL := Lib.hid ((Below.refl w6.heap.size w6).alloc (Nat.le_refl _) (.cells #[.string ⟨y.t.toArray⟩, .int .i64 y.nx, .int .i64 y.bs, .int .i64 y.cd, .int .i64 y.pl] 103))
        replace X := Lib.hid (X.out.below AL.out)
        have V : Hid (mi.cd = 0 → Recs (w6.alloc (.cells #[.string ⟨y.t.toArray⟩, .int .i64 y.nx, .int .i64 y.bs, .int .i64 y.cd, .int .i64 y.pl] 103)) B 100 6 (.slice a n9 cap) (fs.map rfR)) := Lib.hid fun h => (hV h).below AL.out
        clear AL hV
        generalize w6.alloc (.cells #[.string ⟨y.t.toArray⟩, .int .i64 y.nx, .int .i64 y.bs, .int .i64 y.cd, .int .i64 y.pl] 103) = w7 at *
        generalize w6.heap.size = yb at *
        have qa := X.out.r.all; obtain ⟨⟨q0, q1, q2, q3, q4⟩, qf0, qf1, qf2, qf3, qf4⟩ := qa; obtain ⟨t0, t1, t2, t3⟩ := cells4 (X.out.g); obtain ⟨tf0, tf1, tf2, tf3⟩ := frees4 (X.out.g); obtain ⟨z0, z1, z2, z3⟩ := cells4 (X.out.z); obtain ⟨zf0, zf1, zf2, zf3⟩ := frees4 (X.out.z)
        obtain ⟨y0, y1, y2, y3, y4⟩ := cells5 (Y.out)
        have hH := HH.out
        clear HH
        rcases hH with ⟨hc, rfl, rfl, rfl, rfl, rfl, rfl, rfl⟩ | ⟨hc, foot, m5, okw, HF, HWN, HH⟩
        · have hcb : (y.cd != 0) = true := by rw [HY1.out]; simpa using hc
          have HYP := Lib.hid (HY2.out hc)
          clear hc HY2
          go_upto_region 9 with (fail)
          go_region
          all_goals (go_wp2; try simp only [Act.put, List.setIfInBounds_toArray, List.set_cons_zero, List.set_cons_succ, List.getElem_toArray, List.getElem_cons_zero, List.getElem_cons_succ])
          all_goals (obtain ⟨h8, hk⟩ := X.out.fin 0 0 0 (.slice none 0 0); exact end_cttt rfl rfl rfl (rf_block_drew h8) Try.underlying40 rfl (by kernel_rfl) (by exact ⟨_, (by rw [← HY1.out, ← HYP.out]; rfl), Recs.nil _ _ _ _, hk.drew⟩))
        · have hcb : (y.cd != 0) = false := by rw [HY1.out, hc]; rfl
          replace V := Lib.hid (V.out hc)
          clear hc HY1 HY2
          replace HH := Lib.hid HH
          replace HF := Lib.hid HF
          replace HWN := Lib.hid HWN
          go_upto_region 10 with (fail)
          clear y0 y1 y2 y3 y4 Y
          go_cut [65] (fun s65 wx => s65 = .bool foot ∧ Hid (Qx w wx rb pb m2 v (rv : Nat) (fl : Nat) (.slice none 0 0)) ∧ Hid (Recs wx B 100 6 (.slice a n9 cap) (fs.map rfR)))
          case first =>
            rcases HF.out with ⟨rfl, BT⟩ | ⟨rfl | rfl, rfl⟩
            all_goals (
              go_wp2_with (go_at_call 28; (with_reducible refine (BT.out _).mono ?_); rintro e wx ⟨rfl, rfl⟩)
              go_meet
              exact ⟨rfl, X, V⟩)
          case rest =>
            obtain ⟨rfl, X2, V2⟩ := hcut
            clear V
            have V := V2
            clear V2
            clear X
            clear q0 q1 q2 q3 q4 qf0 qf1 qf2 qf3 qf4 t0 t1 t2 t3 tf0 tf1 tf2 tf3 z0 z1 z2 z3 zf0 zf1 zf2 zf3
            have X := X2
            clear X2
            have qa := X.out.r.all; obtain ⟨⟨q0, q1, q2, q3, q4⟩, qf0, qf1, qf2, qf3, qf4⟩ := qa; obtain ⟨t0, t1, t2, t3⟩ := cells4 (X.out.g); obtain ⟨tf0, tf1, tf2, tf3⟩ := frees4 (X.out.g); obtain ⟨z0, z1, z2, z3⟩ := cells4 (X.out.z); obtain ⟨zf0, zf1, zf2, zf3⟩ := frees4 (X.out.z)
            go_upto_if 65 with (fail)
            go_cut [6] (fun s6 wx => s6 = .pointer (some ⟨pb, 0, none⟩) ∧ Hid (Qx w wx rb pb m5 v (rv : Nat) (fl : Nat) (.slice none 0 0)) ∧ Hid (Recs wx B 100 6 (.slice a n9 cap) (fs.map rfR)))
            case first =>
              rcases HWN.out with ⟨rfl, h10, WN⟩ | ⟨rfl, rfl⟩
              · have h10' : (10 : Int) ≤ l.length := by omega
                have hcat : ¬ 9223372036854775807 < 3 + min 7 (l.length - 3) := by omega
                go_upto_region 11 with (fail)
                refine wp_region_noPanic ?_
                refine wp_region_held_drew (S := fun _ => True) (by kernel_rfl) trivial (fun hHeld => ?_)
                clear hHeld
                try simp only [Act.put, List.setIfInBounds_toArray, List.set_cons_zero, List.set_cons_succ, List.getElem_toArray, List.getElem_cons_zero, List.getElem_cons_succ]
                refine wpAnyH_take (i := 1) (v := ?va) rfl (by kernel_rfl) (by kernel_rfl) (by kernel_rfl) (fun _ _ _ h => h) (Or.inl ⟨by rfl, ?hya⟩) trivial ?ra
                case hya => (intro w hSw; go_simp; first | done | with_reducible rfl | rw [if_neg hcat])
                try simp only [Act.put, List.setIfInBounds_toArray, List.set_cons_zero, List.set_cons_succ, List.getElem_toArray, List.getElem_cons_zero, List.getElem_cons_succ]
                refine wpAnyH_take (i := 2) (v := ?vb) rfl (by kernel_rfl) (by kernel_rfl) (by kernel_rfl) (fun _ _ _ h => h) (Or.inl ⟨by rfl, ?hyb⟩) trivial ?rb
                case hyb => (intro w hSw; go_simp; first | done | with_reducible rfl | rw [if_neg hcat])
                try simp only [Act.put, List.setIfInBounds_toArray, List.set_cons_zero, List.set_cons_succ, List.getElem_toArray, List.getElem_cons_zero, List.getElem_cons_succ]
                refine wpAnyH_take (i := 3) (v := ?vc) rfl (by kernel_rfl) (by kernel_rfl) (by kernel_rfl) (fun _ _ _ h => h) (Or.inl ⟨by rfl, ?hyc⟩) trivial ?rc
                case hyc => (intro w hSw; go_simp; first | done | with_reducible rfl | rw [if_neg hcat])
                try simp only [Act.put, List.setIfInBounds_toArray, List.set_cons_zero, List.set_cons_succ, List.getElem_toArray, List.getElem_cons_zero, List.getElem_cons_succ]
                refine wpAnyH_ready (rs := [0]) (by kernel_rfl) (by simp) ?_
                refine AllReadyH.cons rfl (fun K hK => ?_) AllReadyH.nil
                go_simp
                refine hK.out _ _ trivial (fun hHeld => ?_)
                clear hK K hHeld
                try simp only [Act.put, List.setIfInBounds_toArray, List.set_cons_zero, List.set_cons_succ, List.getElem_toArray, List.getElem_cons_zero, List.getElem_cons_succ]
                refine wpAnyH_ready (rs := [4]) (by kernel_rfl) (by simp) ?_
                refine AllReadyH.cons rfl (fun K hK => ?_) AllReadyH.nil
                go_simp
                (go_at_call 71; (with_reducible refine (WN.out _).mono ?_); rintro e w8 ⟨rfl, hb⟩; clear q0 q1 q2 q3 q4 qf0 qf1 qf2 qf3 qf4 t0 t1 t2 t3 tf0 tf1 tf2 tf3 z0 z1 z2 z3 zf0 zf1 zf2 zf3; have k8 := Lib.hid (fr_drewB hb); clear hb; replace X := Lib.hid (X.out.below k8.out); replace V := Lib.hid (V.out.below k8.out); clear k8; have qa := X.out.r.all; obtain ⟨⟨q0, q1, q2, q3, q4⟩, qf0, qf1, qf2, qf3, qf4⟩ := qa; obtain ⟨t0, t1, t2, t3⟩ := cells4 (X.out.g); obtain ⟨tf0, tf1, tf2, tf3⟩ := frees4 (X.out.g); obtain ⟨z0, z1, z2, z3⟩ := cells4 (X.out.z); obtain ⟨zf0, zf1, zf2, zf3⟩ := frees4 (X.out.z))
                refine hK.out _ _ trivial (fun hHeld => ?_)
                clear hK K hHeld
                try simp only [Act.put, List.setIfInBounds_toArray, List.set_cons_zero, List.set_cons_succ, List.getElem_toArray, List.getElem_cons_zero, List.getElem_cons_succ]
                refine wpAnyH_take (i := 5) (v := ?vd) rfl (by kernel_rfl) (by kernel_rfl) (by kernel_rfl) (fun _ _ _ h => h) (Or.inl ⟨by rfl, ?hyd⟩) trivial ?rd
                case hyd => (intro w hSw; go_simp; first | done | with_reducible rfl | rw [if_neg hcat])
                try simp only [Act.put, List.setIfInBounds_toArray, List.set_cons_zero, List.set_cons_succ, List.getElem_toArray, List.getElem_cons_zero, List.getElem_cons_succ]
                refine wpAnyH_take (i := 6) (v := ?ve) rfl (by kernel_rfl) (by kernel_rfl) (by kernel_rfl) (fun _ _ _ h => h) (Or.inl ⟨by rfl, ?hye⟩) trivial ?re
                case hye => (intro w hSw; go_simp; first | done | with_reducible rfl | rw [if_neg hcat])
                try simp only [Act.put, List.setIfInBounds_toArray, List.set_cons_zero, List.set_cons_succ, List.getElem_toArray, List.getElem_cons_zero, List.getElem_cons_succ]
                refine wpAnyH_take (i := 7) (v := ?vf) rfl (by kernel_rfl) (by kernel_rfl) (by kernel_rfl) (fun _ _ _ h => h) (Or.inl ⟨by rfl, ?hyf⟩) trivial ?rf
                case hyf => (intro w hSw; go_simp; first | done | with_reducible rfl | rw [if_neg hcat])
                try simp only [Act.put, List.setIfInBounds_toArray, List.set_cons_zero, List.set_cons_succ, List.getElem_toArray, List.getElem_cons_zero, List.getElem_cons_succ]
                refine wpAnyH_ready (rs := [8]) (by kernel_rfl) (by simp) ?_
                refine AllReadyH.cons rfl (fun K hK => ?_) AllReadyH.nil
                go_simp
                refine hK.out _ _ trivial (fun hHeld => ?_)
                clear hK K hHeld
                try simp only [Act.put, List.setIfInBounds_toArray, List.set_cons_zero, List.set_cons_succ, List.getElem_toArray, List.getElem_cons_zero, List.getElem_cons_succ]
                refine wpAnyH_done (by kernel_rfl) ?_ _
                refine NoPanic.normal ?_
                go_wp2_with fail
                go_meet
                exact ⟨rfl, Lib.hid (X.out.setr m5), Lib.hid (V.out.onlyT (b := pb) (show Only pb w8 (((((w8.setCell ⟨pb, 0, none⟩ (.string ⟨m5.t.toArray⟩)).setCell ⟨pb, 1, none⟩ (.int .i64 m5.nx)).setCell ⟨pb, 2, none⟩ (.int .i64 m5.bs)).setCell ⟨pb, 3, none⟩ (.int .i64 m5.cd)).setCell ⟨pb, 4, none⟩ (.int .i64 m5.pl)) from ((((Only.set _).trans (Only.set _)).trans (Only.set _)).trans (Only.set _)).trans (Only.set _)) (by omega))⟩
              · go_wp2_with fail
                go_meet
                exact ⟨rfl, X, V⟩
            case rest =>
              obtain ⟨rfl, X2, V2⟩ := hcut
              clear V
              have V := V2
              clear V2
              clear X
              clear q0 q1 q2 q3 q4 qf0 qf1 qf2 qf3 qf4 t0 t1 t2 t3 tf0 tf1 tf2 tf3 z0 z1 z2 z3 zf0 zf1 zf2 zf3
              have X := X2
              clear X2
              have qa := X.out.r.all; obtain ⟨⟨q0, q1, q2, q3, q4⟩, qf0, qf1, qf2, qf3, qf4⟩ := qa; obtain ⟨t0, t1, t2, t3⟩ := cells4 (X.out.g); obtain ⟨tf0, tf1, tf2, tf3⟩ := frees4 (X.out.g); obtain ⟨z0, z1, z2, z3⟩ := cells4 (X.out.z); obtain ⟨zf0, zf1, zf2, zf3⟩ := frees4 (X.out.z)
              have hH := HH.out
              clear HH
              rcases hH with ⟨hc, rfl, rfl, rfl, rfl, rfl, rfl, rfl⟩ | ⟨hc, hnx, b64, BT, h64, rfl, rfl, rfl, rfl, rfl, rfl, rfl⟩
              · have hcb : (m5.cd != 0) = true := by simpa using hc
                clear hc
                go_upto_region 13 with (fail)
                go_region
                all_goals (go_wp2; try simp only [Act.put, List.setIfInBounds_toArray, List.set_cons_zero, List.set_cons_succ, List.getElem_toArray, List.getElem_cons_zero, List.getElem_cons_succ])
                all_goals (obtain ⟨h8, hk⟩ := X.out.fin 0 0 0 (.slice none 0 0); exact end_cttt rfl rfl rfl (rf_block_drew h8) Try.underlying40 rfl (by kernel_rfl) (by exact ⟨_, rfl, Recs.nil _ _ _ _, hk.drew⟩))
              · have hcb : (m5.cd != 0) = false := by rw [hc]; rfl
                clear hc
                have hnx' : (m5.nx : Int) ≤ l.length := by omega
                have wf : IntKind.i64.wrap ((fl : Int) - 64) = (fl : Int) - 64 := IntWalk.i64_in _ (by omega)
                go_upto_region 15 with (fail)
                replace X := Lib.hid (X.out.set3 (.slice a n9 cap))
                replace V := Lib.hid (V.out.onlyT (Only.set (b := pb + 1) (j := 3) (.slice a n9 cap)) (by omega))
                clear q0 q1 q2 q3 q4 qf0 qf1 qf2 qf3 qf4 t0 t1 t2 t3 tf0 tf1 tf2 tf3 z0 z1 z2 z3 zf0 zf1 zf2 zf3
                generalize wc.setCell ⟨pb + 1, 3, none⟩ (.slice a n9 cap) = w9 at *
                have qa := X.out.r.all; obtain ⟨⟨q0, q1, q2, q3, q4⟩, qf0, qf1, qf2, qf3, qf4⟩ := qa; obtain ⟨t0, t1, t2, t3⟩ := cells4 (X.out.g); obtain ⟨tf0, tf1, tf2, tf3⟩ := frees4 (X.out.g); obtain ⟨z0, z1, z2, z3⟩ := cells4 (X.out.z); obtain ⟨zf0, zf1, zf2, zf3⟩ := frees4 (X.out.z)
                rcases b64 with _ | _
                · go_upto_region 17 with (go_at_call 28; (with_reducible refine (BT.out _).mono ?_); rintro e wx ⟨rfl, rfl⟩)
                  go_region
                  all_goals (go_wp2; try simp only [Act.put, List.setIfInBounds_toArray, List.set_cons_zero, List.set_cons_succ, List.getElem_toArray, List.getElem_cons_zero, List.getElem_cons_succ])
                  all_goals (obtain ⟨h8, hk⟩ := X.out.fin v (rv : Nat) (fl : Nat) (.slice a n9 cap); exact end_cttt rfl rfl rfl (rf_block_drew h8) Try.underlying40 rfl (by kernel_rfl) (by exact ⟨_, rfl, ((V.out.onlyT (b := rb) (show Only rb _ (stores _ rb 0 [.int .i64 v, .int .i64 (rv : Nat), .int .i64 (fl : Nat), .slice a n9 cap]) from (((Only.set _).trans (Only.set _)).trans (Only.set _)).trans (Only.set _)) (by omega)).below ((Below.refl _ _).drew)).base (by have := HRB.out; omega), hk.drew⟩))
                · go_upto_region 17 with (go_at_call 28; (with_reducible refine (BT.out _).mono ?_); rintro e wx ⟨rfl, rfl⟩)
                  replace X := Lib.hid (X.out.set2 ((fl : Int) - 64))
                  replace V := Lib.hid (V.out.onlyT (Only.set (b := pb + 1) (j := 2) (.int .i64 ((fl : Int) - 64))) (by omega))
                  clear q0 q1 q2 q3 q4 qf0 qf1 qf2 qf3 qf4 t0 t1 t2 t3 tf0 tf1 tf2 tf3 z0 z1 z2 z3 zf0 zf1 zf2 zf3
                  generalize w9.setCell ⟨pb + 1, 2, none⟩ (.int .i64 ((fl : Int) - 64)) = w10 at *
                  have qa := X.out.r.all; obtain ⟨⟨q0, q1, q2, q3, q4⟩, qf0, qf1, qf2, qf3, qf4⟩ := qa; obtain ⟨t0, t1, t2, t3⟩ := cells4 (X.out.g); obtain ⟨tf0, tf1, tf2, tf3⟩ := frees4 (X.out.g); obtain ⟨z0, z1, z2, z3⟩ := cells4 (X.out.z); obtain ⟨zf0, zf1, zf2, zf3⟩ := frees4 (X.out.z)
                  go_region
                  all_goals (go_wp2; try simp only [Act.put, List.setIfInBounds_toArray, List.set_cons_zero, List.set_cons_succ, List.getElem_toArray, List.getElem_cons_zero, List.getElem_cons_succ])
                  all_goals (obtain ⟨h8, hk⟩ := X.out.fin v (rv : Nat) ((fl : Int) - 64) (.slice a n9 cap); exact end_cttt rfl rfl rfl (rf_block_drew h8) Try.underlying40 rfl (by kernel_rfl) (by exact ⟨_, rfl, ((V.out.onlyT (b := rb) (show Only rb _ (stores _ rb 0 [.int .i64 v, .int .i64 (rv : Nat), .int .i64 ((fl : Int) - 64), .slice a n9 cap]) from (((Only.set _).trans (Only.set _)).trans (Only.set _)).trans (Only.set _)) (by omega)).below ((Below.refl _ _).drew)).base (by have := HRB.out; omega), hk.drew⟩))
end Go.Proofs.Ytmnmonmbdgedbaa

namespace Go.Proofs.Ytmnmonmbdgedbaa
open Go.RowKit
set_option linter.unusedVariables false
set_option linter.unusedSimpArgs false

theorem diff_cons (c d : UInt8) (s l : List UInt8) : diff (c :: s) (d :: l) = if c = d then (diff s l).map (· + 1) else some 0 := by rw [diff]
theorem diff_app_some : ∀ (a b l : List UInt8) (i : Nat), diff a l = some i → diff (a ++ b) l = some i
  | [], b, l, i, h => by simp [diff] at h
  | c :: a, b, [], i, h => by simp [diff] at h
  | c :: a, b, d :: l, i, h => by
    rw [List.cons_append, diff_cons]
    rw [diff_cons] at h
    by_cases e : c = d
    · rw [if_pos e] at h ⊢
      cases h2 : diff a l with
      | none => rw [h2] at h; cases h
      | some j => rw [h2] at h; rw [diff_app_some a b l j h2]; exact h
    · rw [if_neg e] at h ⊢
      exact h
theorem diff_app_none : ∀ (a b l : List UInt8), diff a l = none → (l.length < a.length → diff (a ++ b) l = none) ∧ (a.length ≤ l.length → diff (a ++ b) l = (diff b (l.drop a.length)).map (· + a.length))
  | [], b, l, h => ⟨fun h => absurd h (by simp), fun _ => by simp⟩
  | c :: a, b, [], h => ⟨fun _ => by simp [diff], fun h => absurd h (by simp)⟩
  | c :: a, b, d :: l, h => by
    rw [List.cons_append, diff_cons]
    rw [diff_cons] at h
    by_cases e : c = d
    · rw [if_pos e] at h ⊢
      have h2 : diff a l = none := by
        cases h2 : diff a l with
        | none => rfl
        | some j => rw [h2] at h; cases h
      obtain ⟨i1, i2⟩ := diff_app_none a b l h2
      refine ⟨fun hl => ?_, fun hl => ?_⟩
      · rw [List.length_cons, List.length_cons] at hl
        rw [i1 (by omega)]
        rfl
      · rw [List.length_cons, List.length_cons] at hl
        rw [i2 (by omega), List.length_cons, List.drop_succ_cons]
        cases diff b (l.drop a.length) with
        | none => rfl
        | some j =>
          show some (j + a.length + 1) = some (j + (a.length + 1))
          rw [Nat.add_assoc]
    · rw [if_neg e] at h
      cases h
theorem want_dead {m : Rd} (h : m.cd ≠ 0) (s : List UInt8) : (m.want s).1 = m := by
  unfold Rd.want
  rw [if_neg h]
theorem want_some {m : Rd} {s : List UInt8} {i : Nat} (hc : m.cd = 0) (h : diff s (m.t.drop m.nx) = some i) : (m.want s).1 = m.fail 1 (m.bs + m.nx + i) := by
  unfold Rd.want
  rw [if_pos hc, h]
theorem want_short {m : Rd} {s : List UInt8} (hc : m.cd = 0) (h : diff s (m.t.drop m.nx) = none) (hl : (m.t.drop m.nx).length < s.length) : (m.want s).1 = m.short := by
  unfold Rd.want
  rw [if_pos hc, h]
  simp only [if_pos hl]
theorem want_all {m : Rd} {s : List UInt8} (hc : m.cd = 0) (h : diff s (m.t.drop m.nx) = none) (hl : ¬ (m.t.drop m.nx).length < s.length) : (m.want s).1 = adv m s.length := by
  unfold Rd.want
  rw [if_pos hc, h]
  simp only [if_neg hl]
  rfl
theorem want_two (m : Rd) (a b : List UInt8) : Like ((m.want a).1.want b).1 (m.want (a ++ b)).1 := by
  by_cases hc : m.cd = 0
  · cases h : diff a (m.t.drop m.nx) with
    | some i =>
      have hd : (m.fail 1 (m.bs + m.nx + i)).cd ≠ 0 := by rw [Rd.fail_yes _ _ _ hc (by decide)]; exact (by decide : (1 : Int) ≠ 0)
      rw [want_some hc h, want_some hc (diff_app_some _ _ _ _ h), want_dead hd]
      exact Like.refl _
    | none =>
      obtain ⟨i1, i2⟩ := diff_app_none a b _ h
      by_cases hl : (m.t.drop m.nx).length < a.length
      · have hd : m.short.cd ≠ 0 := by unfold Rd.short; rw [Rd.fail_yes _ _ _ hc (by decide)]; exact (by decide : (1 : Int) ≠ 0)
        rw [want_short hc h hl, want_short hc (i1 hl) (by rw [List.length_append]; omega), want_dead hd]
        exact Like.refl _
      · have i3 := i2 (by omega)
        rw [want_all hc h hl]
        have hc' : (adv m a.length).cd = 0 := hc
        have ed : (m.t.drop m.nx).drop a.length = (adv m a.length).t.drop (adv m a.length).nx := by rw [List.drop_drop]; rfl
        have ell : ((adv m a.length).t.drop (adv m a.length).nx).length = (m.t.drop m.nx).length - a.length := by rw [← ed, List.length_drop]
        rw [ed] at i3
        cases h2 : diff b ((adv m a.length).t.drop (adv m a.length).nx) with
        | some j =>
          rw [h2] at i3
          rw [want_some hc' h2, want_some (i := j + a.length) hc i3, Rd.fail_yes m _ _ hc (by decide), Rd.fail_yes (adv m a.length) _ _ hc' (by decide)]
          refine ⟨rfl, ?_, fun h => absurd h (by decide : ¬ (1 : Int) = 0)⟩
          show m.bs + m.nx + ((j + a.length : Nat) : Int) = m.bs + ((m.nx + a.length : Nat) : Int) + j
          omega
        | none =>
          rw [h2] at i3
          by_cases h3 : ((adv m a.length).t.drop (adv m a.length).nx).length < b.length
          · rw [want_short hc' h2 h3, want_short hc i3 (by rw [List.length_append]; omega)]
            unfold Rd.short
            rw [Rd.fail_yes m _ _ hc (by decide), Rd.fail_yes (adv m a.length) _ _ hc' (by decide)]
            exact ⟨rfl, rfl, fun h => absurd h (by decide : ¬ (1 : Int) = 0)⟩
          · rw [want_all hc' h2 h3, want_all hc i3 (by rw [List.length_append]; omega), List.length_append, adv_adv]
            exact Like.refl _
  · rw [want_dead hc, want_dead hc, want_dead hc]
    exact Like.refl _
theorem rinner_any (v : Int) (rv fl : Nat) (m : Rd) (w : World) (hv : v = 2 ∨ v = 3 ∨ v = 4) (hfl : fl ≤ 255) (h2 : v = 2 → tb (UInt8.ofNat fl) 64 = false) (hm : m.Ok) (hb : m.bs ≤ 1000000000000) (hl : m.t.length ≤ 24000) :
    Calls Try.prog 70 #[.agg #[.int .i64 v, .int .i64 (rv : Nat), .int .i64 (fl : Nat), .slice none 0 0], rdV m] w (RInner (frsM v (tb (UInt8.ofNat fl) 128) (skM v (UInt8.ofNat fl) m)) w) := by
  have eF : (UInt8.ofNat fl).toNat = fl := by rw [UInt8.toNat_ofNat']; omega
  have hsk := skM_t v (UInt8.ofNat fl) m
  have hnx := hm.1
  have hb0 := hm.2.2.1
  have B64 : ∀ w, Calls Try.prog 28 #[.int .i64 (fl : Nat), .int .i64 64] w fun e w' => e = .returned (.bool (tb (UInt8.ofNat fl) 64)) ∧ w = w' := fun w => by
    have h := bit_any (UInt8.ofNat fl) 64 w (by decide) (by decide)
    rw [eF, (bt_tb _).2.1] at h
    exact h
  have B128 : Hid (∀ w, Calls Try.prog 28 #[.int .i64 (fl : Nat), .int .i64 128] w fun e w' => e = .returned (.bool (tb (UInt8.ofNat fl) 128)) ∧ w = w') := Lib.hid fun w => by
    have h := bit_any (UInt8.ofNat fl) 128 w (by decide) (by decide)
    rw [eF, (bt_tb _).1] at h
    exact h
  refine rinner_core v rv fl _ (tb (UInt8.ofNat fl) 64) m _ w hv hb0 hb (by omega) (skM_ok v _ hm) (by rw [hsk.2]; exact hb) (by rw [hsk.1]; exact hl) (Lib.hid ?_) B128 (Lib.hid ?_)
  · rcases hv with rfl | rfl | rfl
    · exact .inl ⟨rfl, h2 rfl⟩
    · exact .inr ⟨.inl rfl, Lib.hid B64⟩
    · exact .inr ⟨.inr rfl, Lib.hid B64⟩
  · by_cases h64 : tb (UInt8.ofNat fl) 64 = false
    · exact .inl ⟨h64, by unfold skM; rw [if_pos h64]⟩
    · have h64' : tb (UInt8.ofNat fl) 64 = true := by simpa using h64
      rcases hv with rfl | rfl | rfl
      · exact absurd (h2 rfl) h64
      · right; left
        have hs4 := take_len m ((4 : Nat) : Int)
        refine ⟨h64', rfl, (m.take ((4 : Nat) : Int)).1, (m.take ((4 : Nat) : Int)).2, numL (m.take ((4 : Nat) : Int)).2, ((m.take ((4 : Nat) : Int)).1.take ((numL (m.take ((4 : Nat) : Int)).2 : Nat) : Int)).2, numL_le _ (by omega), Lib.hid fun w => rtake_any m ((4 : Nat) : Int) w hm, Lib.hid fun w => number_any _ w (by omega), ?_⟩
        have e : skM 3 (UInt8.ofNat fl) m = ((m.take ((4 : Nat) : Int)).1.take ((numL (m.take ((4 : Nat) : Int)).2 : Nat) : Int)).1 := by unfold skM; rw [if_neg h64, if_pos rfl]
        rw [e]
        exact Lib.hid fun w => rtake_any _ _ w (take_ok _ hm)
      · right; right
        have hn0 := safe_nonneg m
        have hn1 := safe_top m
        have ok2 := fr_safe_ok hm
        have e : skM 4 (UInt8.ofNat fl) m = ((if m.safe.2 < 6 then m.safe.1.fail 1 (m.bs + m.nx) else m.safe.1).take (m.safe.2 - 4)).1 := by unfold skM; rw [if_neg h64, if_neg (by decide)]
        rw [e]
        refine ⟨h64', rfl, m.safe.1, (if m.safe.2 < 6 then m.safe.1.fail 1 (m.bs + m.nx) else m.safe.1), m.safe.2, ((if m.safe.2 < 6 then m.safe.1.fail 1 (m.bs + m.nx) else m.safe.1).take (m.safe.2 - 4)).2, hn0, by omega, Lib.hid fun w => rreadsafe_any m w hm, ?_, Lib.hid fun w => rtake_any _ _ w ?_⟩
        · by_cases h6 : m.safe.2 < 6
          · rw [if_pos h6]; exact .inl ⟨h6, Lib.hid fun w => rfail_any _ _ _ w⟩
          · rw [if_neg h6]; exact .inr ⟨h6, rfl⟩
        · split
          · exact ok2.fail _ _
          · exact ok2
theorem and_191 : ∀ n : Nat, n < 256 → ((n &&& 191 : Nat) : Int) = (if n / 64 % 2 = 1 then (n : Int) - 64 else (n : Int)) ∧ (n / 64 % 2 = 1 → 64 ≤ n) := by decide +kernel
theorem hdM_hd3 (m : Rd) : (hdM m).1 = (hd3 (m.want [73, 68, 51]).1).1 ∧ ((hdM m).1.cd = 0 → (hdM m).2 = ⟨((hd3 (m.want [73, 68, 51]).1).2.1 : Nat), UInt8.ofNat (hd3 (m.want [73, 68, 51]).1).2.2.1, UInt8.ofNat (hd3 (m.want [73, 68, 51]).1).2.2.2⟩) := by
  unfold hdM hd3
  simp only
  split
  · exact ⟨rfl, fun h => by rename_i h2; exact absurd h h2⟩
  · exact ⟨rfl, fun _ => rfl⟩
theorem hd3_le (m : Rd) : (hd3 m).2.2.1 ≤ 255 ∧ (hd3 m).2.2.2 ≤ 255 := ⟨one_le _, one_le _⟩
theorem rtparse_any (l : List UInt8) (w : World) (hl : l.length ≤ 24000) (hn : ¬ (l.length < 3 ∨ l.take 3 ≠ [73, 68, 51])) :
    Calls Try.prog 26 #[.string ⟨l.toArray⟩] w (RTP (prT l).1.v (prT l).1.rv.toNat (prT l).1.fl.toNat (prT l).1.fs (prT l).2.1 (prT l).2.2.1 (prT l).2.2.2 w) := by
  have hrun : Run (Rd.new l 0) ([73, 68, 51] ++ l.drop 3) := by
    have h := Run.new l 0
    have e : l = [73, 68, 51] ++ l.drop 3 := by
      have h3 : l.take 3 = [73, 68, 51] := Classical.byContradiction fun h => hn (.inr h)
      rw [← h3, List.take_append_drop]
    rw [← e]
    exact h
  have hl3 : 3 ≤ l.length := by
    have : ¬ l.length < 3 := fun h => hn (.inl h)
    omega
  have hw3 : ((Rd.new l 0).want [73, 68, 51]).1 = adv (Rd.new l 0) 3 := by rw [hrun.want]; rfl
  have hd := hdM_hd3 (Rd.new l 0)
  rw [hw3] at hd
  have hle := hd3_le (adv (Rd.new l 0) 3)
  have ok0 : (Rd.new l 0).Ok := new_ok l 0 (by omega) (by decide)
  have ok3 : (adv (Rd.new l 0) 3).Ok := ⟨hl3, ok0.2⟩
  have HD := Lib.hid (fun w => rhead_any (adv (Rd.new l 0) 3) w ok3)
  have okh : (hdM (Rd.new l 0)).1.Ok := hdM_ok ok0
  have hds := hdM_sound (m := Rd.new l 0) (Nat.zero_le _)
  unfold prT
  rw [if_neg hn]
  simp only
  rw [← hd.1] at HD
  have hd2 := hd.2
  clear hd
  generalize (hd3 (adv (Rd.new l 0) 3)).2.1 = v at *
  generalize (hd3 (adv (Rd.new l 0) 3)).2.2.1 = rv at *
  generalize (hd3 (adv (Rd.new l 0) 3)).2.2.2 = fl at *
  have erv : (UInt8.ofNat rv).toNat = rv := by rw [UInt8.toNat_ofNat']; omega
  have efl : (UInt8.ofNat fl).toNat = fl := by rw [UInt8.toNat_ofNat']; omega
  generalize hH : hdM (Rd.new l 0) = H at *
  have ok1 : H.1.safe.1.Ok := fr_safe_ok okh
  have TK := Lib.hid (fun w => rtake_any H.1.safe.1 H.1.safe.2 w ok1)
  have hbody : (H.1.safe.1.take H.1.safe.2).2.length ≤ H.1.safe.1.t.length := take_le_text _ _
  have core := fun V0 V1 V2 L rest c q hh => rtparse_core l (H.1.safe.1.take H.1.safe.2).2 H.1.safe.1 (H.1.safe.1.take H.1.safe.2).1 (v : Nat) rv fl H.1.safe.2 V0 V1 V2 L rest c q w hle.2 (by omega) HD TK hh
  by_cases hc : (H.1.safe.1.take H.1.safe.2).1.cd = 0
  · rw [if_neg (fun h => h hc)]
    -- the head is well
    have hs1 : H.1.safe.1.cd = 0 := Classical.byContradiction fun h => by rw [take_dead h] at hc; exact h hc
    have hs0 : H.1.cd = 0 := Classical.byContradiction fun h => by rw [safe_dead h] at hs1; exact h hs1
    obtain ⟨_, hx6, hx1, _, _, hlet, _, _, h264⟩ := hds hs0
    rw [hd2 hs0] at hlet h264
    have hv : ((v : Nat) : Int) = 2 ∨ ((v : Nat) : Int) = 3 ∨ ((v : Nat) : Int) = 4 := letters_v hlet
    replace h264 : ((v : Nat) : Int) = 2 → tb (UInt8.ofNat fl) 64 = false := h264
    rw [hd2 hs0]
    simp only
    have s4 := (safe_ok_of okh.1 hs1).2.2
    obtain ⟨k, hk⟩ : ∃ k : Nat, (k : Int) = H.1.safe.2 := ⟨_, Int.toNat_of_nonneg (safe_nonneg H.1)⟩
    have tk := take_ok_of (m := H.1.safe.1) (k := k) ok1.1 (by rw [hk]; exact hc)
    have em2 : (H.1.safe.1.take H.1.safe.2).1 = adv (Rd.new l 0) (10 + k) := by
      rw [← hk, tk.2.2]
      show adv H.1.safe.1 k = _
      rw [s4, hx1, adv_adv, adv_adv, show 6 + (4 + k) = 10 + k by omega]
    have hkl : 10 + k ≤ l.length := by
      have h := tk.2.1
      rw [s4, hx1] at h
      have h' : 0 + 6 + 4 + k ≤ l.length := h
      omega
    have hbl : (H.1.safe.1.take H.1.safe.2).2.length ≤ l.length := by
      have e : H.1.safe.1.t = l := by rw [s4, hx1]; rfl
      rw [e] at hbody
      exact hbody
    have ok2 : (H.1.safe.1.take H.1.safe.2).1.Ok := take_ok _ ok1
    generalize (H.1.safe.1.take H.1.safe.2).1 = m2 at *
    generalize (H.1.safe.1.take H.1.safe.2).2 = body at *
    obtain ⟨F, hF⟩ : ∃ F, F = UInt8.ofNat fl := ⟨_, rfl⟩
    rw [← hF] at efl h264
    rw [← hF]
    have BB : ∀ k, 0 < k → k ≤ 200 → ∀ w, Calls Try.prog 28 #[.int .i64 (fl : Nat), .int .i64 (k : Nat)] w fun e w' => e = .returned (.bool (bt F k)) ∧ w = w' := fun k h1 h2 w => by
      have h := bit_any F k w h1 h2
      rw [efl] at h
      exact h
    have B128 : Hid (∀ w, Calls Try.prog 28 #[.int .i64 (fl : Nat), .int .i64 128] w fun e w' => e = .returned (.bool (tb F 128)) ∧ w = w') := Lib.hid fun w => by rw [← (bt_tb F).1]; exact BB 128 (by decide) (by decide) w
    have B64 : Hid (∀ w, Calls Try.prog 28 #[.int .i64 (fl : Nat), .int .i64 64] w fun e w' => e = .returned (.bool (bt F 64)) ∧ w = w') := Lib.hid fun w => BB 64 (by decide) (by decide) w
    have B16 : Hid (∀ w, Calls Try.prog 28 #[.int .i64 (fl : Nat), .int .i64 16] w fun e w' => e = .returned (.bool (tb F 16)) ∧ w = w') := Lib.hid fun w => by rw [← (bt_tb F).2.2.1]; exact BB 16 (by decide) (by decide) w
    have HW : ((v : Nat) : Int) = 4 ∧ wholeB (v : Nat) F = false ∨ (((v : Nat) : Int) = 2 ∨ ((v : Nat) : Int) = 3) ∧ Hid (∀ w, Calls Try.prog 28 #[.int .i64 (fl : Nat), .int .i64 128] w fun e w' => e = .returned (.bool (wholeB (v : Nat) F)) ∧ w = w') := by
      rcases hv with h | h | h
      · exact .inr ⟨.inl h, by unfold wholeB; rw [if_neg (show ¬ ((v : Nat) : Int) = 4 by omega)]; exact B128⟩
      · exact .inr ⟨.inr h, by unfold wholeB; rw [if_neg (show ¬ ((v : Nat) : Int) = 4 by omega)]; exact B128⟩
      · exact .inl ⟨h, by unfold wholeB; rw [if_pos h]⟩
    have HF : ((v : Nat) : Int) = 4 ∧ Hid (∀ w, Calls Try.prog 28 #[.int .i64 (fl : Nat), .int .i64 16] w fun e w' => e = .returned (.bool (footB (v : Nat) F)) ∧ w = w') ∨ (((v : Nat) : Int) = 2 ∨ ((v : Nat) : Int) = 3) ∧ footB (v : Nat) F = false := by
      rcases hv with h | h | h
      · exact .inr ⟨.inl h, by unfold footB; rw [if_neg (show ¬ ((v : Nat) : Int) = 4 by omega)]⟩
      · exact .inr ⟨.inr h, by unfold footB; rw [if_neg (show ¬ ((v : Nat) : Int) = 4 by omega)]⟩
      · exact .inl ⟨h, by unfold footB; rw [if_pos h]; exact B16⟩
    generalize wholeB (v : Nat) F = whole at *
    generalize footB (v : Nat) F = foot at *
    obtain ⟨body2, hb2, HDR⟩ : ∃ body2, (if whole = true then sndDrop false body else body) = body2 ∧ (whole = true ∧ Hid (∀ w, Calls Try.prog 69 #[.string ⟨body.toArray⟩] w fun e w' => e = .returned (.string ⟨body2.toArray⟩) ∧ w = w') ∨ whole = false ∧ body2 = body) := by
      cases whole with
      | true => exact ⟨sndDrop false body, rfl, .inl ⟨rfl, Lib.hid fun w => rdrop_any body w (by omega)⟩⟩
      | false => exact ⟨body, rfl, .inr ⟨rfl, rfl⟩⟩
    have hb2l : body2.length ≤ 24000 := by
      rw [← hb2]
      split
      · have := sndDrop_len body false; omega
      · omega
    rw [hb2]
    have okI : (Rd.new body2 10).Ok := new_ok body2 10 (by omega) (by decide)
    have IN := Lib.hid (fun w => rinner_any (v : Nat) rv fl (Rd.new body2 10) w hv hle.2 (by rw [← hF]; exact h264) okI (by show max (10 : Int) 0 ≤ _; decide) hb2l)
    rw [← hF] at IN
    generalize frsM (v : Nat) (tb F 128) (skM (v : Nat) F (Rd.new body2 10)) = res at *
    obtain ⟨mi, fs⟩ := res
    simp only
    by_cases hr : mi.cd = 0
    · rw [if_neg (fun h => h hr)]
      obtain ⟨m5, okw, hLike, HWN⟩ : ∃ m5 okw, Like (if foot = true then ((m2.want [51, 68, 73]).1.want ((l.drop 3).take 7)).1 else m2) m5 ∧ (foot = true ∧ 10 ≤ l.length ∧ Hid (∀ w, Calls Try.prog 71 #[rdV m2, .string ⟨(51 :: 68 :: 73 :: (l.drop 3).take 7).toArray⟩] w fun e w' => e = .returned (.tuple #[rdV m5, .bool okw]) ∧ Below w.heap.size w w') ∨ foot = false ∧ m5 = m2) := by
        cases foot with
        | true => exact ⟨(m2.want (51 :: 68 :: 73 :: (l.drop 3).take 7)).1, (m2.want (51 :: 68 :: 73 :: (l.drop 3).take 7)).2, want_two m2 [51, 68, 73] ((l.drop 3).take 7), .inl ⟨rfl, by omega, Lib.hid fun w => rwant_any m2 _ w ok2 (by simp; omega)⟩⟩
        | false => exact ⟨m2, true, Like.refl _, .inr ⟨rfl, rfl⟩⟩
      have h5t : m5.cd = 0 → m5.nx ≤ l.length ∧ m5.t = l := fun h => by
        rcases HWN with ⟨hft, _, _⟩ | ⟨_, h2⟩
        · rw [if_pos hft] at hLike
          have ha : ((m2.want [51, 68, 73]).1.want ((l.drop 3).take 7)).1.cd = 0 := hLike.1.symm.trans h
          have he := hLike.2.2 ha
          have hb : (m2.want [51, 68, 73]).1.cd = 0 := Classical.byContradiction fun hx => by rw [want_dead hx] at ha; exact hx ha
          obtain ⟨_, g2, g3, _⟩ := want_ok_of ok2.1 hb
          have hok' : (m2.want [51, 68, 73]).1.nx ≤ (m2.want [51, 68, 73]).1.t.length := by rw [g3]; exact g2
          obtain ⟨_, g4, g5, _⟩ := want_ok_of hok' ha
          rw [he, g5]
          rw [g3, em2] at g4 ⊢
          exact ⟨g4, rfl⟩
        · rw [h2, em2]
          exact ⟨by show 0 + (10 + k) ≤ l.length; omega, rfl⟩
      generalize (if foot = true then ((m2.want [51, 68, 73]).1.want ((l.drop 3).take 7)).1 else m2) = m5t at *
      by_cases h5 : m5t.cd = 0
      · rw [if_neg (fun h => h h5)]
        obtain rfl := hLike.2.2 h5
        obtain ⟨hnx, ht⟩ := h5t h5
        have hA := and_191 fl (by omega)
        have hbt : bt F 64 = true ↔ fl / 64 % 2 = 1 := by
          unfold bt
          rw [efl]
          constructor
          · intro h; have := eq_of_beq h; omega
          · intro h; rw [h]; rfl
        refine core _ _ _ _ _ _ _ (Lib.hid (.inr ⟨hc, whole, body2, mi, fs, HW, HDR, IN, .inr ⟨hr, foot, m5, okw, HF, HWN, .inr ⟨h5, hnx, bt F 64, B64, ?_, rfl, ?_, ?_, rfl, ?_, rfl, rfl⟩⟩⟩))
        · by_cases hx : fl / 64 % 2 = 1
          · have := hA.2 hx; omega
          · have : bt F 64 = false := by
              cases h : bt F 64 with
              | true => exact absurd (hbt.1 h) hx
              | false => rfl
            rw [this]
            simp
        · rw [erv]
        · show _ = (((F &&& 191).toNat : Nat) : Int)
          rw [UInt8.toNat_and, efl, show (191 : UInt8).toNat = 191 from rfl, hA.1]
          by_cases hx : fl / 64 % 2 = 1
          · rw [if_pos hx, if_pos (hbt.2 hx)]
          · rw [if_neg hx, if_neg (fun h => hx (hbt.1 h))]
        · rw [rest_of (by rw [ht]; exact hnx) h5, ht]
          exact List.take_of_length_le (by rw [List.length_drop]; exact Nat.le_refl _)
      · rw [if_pos h5]
        have h5' : m5.cd ≠ 0 := fun h => h5 (hLike.1.symm.trans h)
        exact core _ _ _ _ _ _ _ (Lib.hid (.inr ⟨hc, whole, body2, mi, fs, HW, HDR, IN, .inr ⟨hr, foot, m5, okw, HF, HWN, .inl ⟨h5', rfl, rfl, rfl, rfl, rfl, hLike.1.symm, hLike.2.1.symm⟩⟩⟩))
    · rw [if_pos hr]
      exact core _ _ _ _ _ _ _ (Lib.hid (.inr ⟨hc, whole, body2, mi, fs, HW, HDR, IN, .inl ⟨hr, rfl, rfl, rfl, rfl, rfl, rfl, rfl⟩⟩))
  · rw [if_pos hc]
    exact core _ _ _ _ _ _ _ (Lib.hid (.inl ⟨hc, rfl, rfl, rfl, rfl, rfl, rfl, rfl⟩))
end Go.Proofs.Ytmnmonmbdgedbaa
