/- The walk of the statement OctetReads: whatever is read of any text, the program's answers are the document's. -/
import Derived.Test.YtfbdgahbhlapmaaOct10
import Derived.Deep.DeepCutAuto
namespace Go.Proofs.Ytfbdgahbhlapmaa
open Go.RowKit

/-- an operation of the statement, as plain data -/
structure OpD where
  k : Int
  n : Int
  c : Int
  s : List UInt8

/-- a slice of operations that came in -/
def OpsAt (w : World) (a : Option Addr) (len : Nat) (l : List OpD) : Prop :=
  (a = none ∧ len = 0 ∧ l = []) ∨ (∃ b off, a = some ⟨b, off, none⟩ ∧ b < w.heap.size ∧ l.length = len ∧ ∀ i (h : i < l.length),
    w.cell? ⟨b, off + i * 4, none⟩ = some (.int .i64 l[i].k) ∧ w.cell? ⟨b, off + i * 4 + 1, none⟩ = some (.int .i64 l[i].n) ∧
    w.cell? ⟨b, off + i * 4 + 2, none⟩ = some (.int .i64 l[i].c) ∧ w.cell? ⟨b, off + i * 4 + 3, none⟩ = some (.string ⟨l[i].s.toArray⟩))

set_option maxHeartbeats 2000000 in
set_option maxRecDepth 100000 in
theorem walk_reads_in (t : List UInt8) (base : Int) (b off len cap : Nat) (l : List OpD) (w : World) (ht : t.length ≤ 2000) (hlen : len ≤ 100) (hbase : base ≤ 1099511627776) (hb : b < w.heap.size) (hl : Hid (l.length = len))
    (HO : Hid (∀ i (h : i < l.length), w.cell? ⟨b, off + i * 4, none⟩ = some (.int .i64 l[i].k) ∧ w.cell? ⟨b, off + i * 4 + 1, none⟩ = some (.int .i64 l[i].n) ∧ w.cell? ⟨b, off + i * 4 + 2, none⟩ = some (.int .i64 l[i].c) ∧ w.cell? ⟨b, off + i * 4 + 3, none⟩ = some (.string ⟨l[i].s.toArray⟩))) :
    Calls Try.prog 11 #[.string ⟨t.toArray⟩, .int .i64 base, .slice (some ⟨b, off, none⟩) len cap] w fun e w' => e = .returned (.bool true) ∧ Below w.heap.size w w' := by
  have hok := new_ok t base (by omega) (by omega)
  have hnw : Rd.new t base = ⟨t, 0, max base 0, 0, 0⟩ := rfl
  have hmx : (if base < 0 then (0 : Int) else base) = max base 0 := by split <;> omega
  have HI := Lib.hid (fun w => inner_any t base w)
  have hbs0 : 0 ≤ max base 0 := by omega
  have hbs1 : max base 0 ≤ 1099511627776 := by omega
  rw [hnw] at HI hok
  clear hnw
  generalize max base 0 = bs at *
  go_enter Try.func11, Try.ntmps11
  go_wp2_with (go_at_call 44; refine (HI.out _).mono ?_; rintro e w1 ⟨rfl, hr1, hb1⟩; have HR1 := Lib.hid hr1; have HB1 := Lib.hid hb1; have hs1 := hr1.lt; clear hr1 hb1)
  have hM : InAt 58 (w1.alloc (.cells #[.string ⟨t.toArray⟩, .int .i64 0, .int .i64 bs, .int .i64 0, .int .i64 0] 58)) w1.heap.size ⟨t, 0, bs, 0, 0⟩ := at_a0 _ _ _
  clear hmx
  go_loopw [35] (fun i wr => ∃ (k : Nat) (m : Rd), k ≤ len ∧ i = .int .i64 k ∧ Hid (m.Ok) ∧ Hid (RdAt wr w.heap.size m) ∧ Hid (InAt 58 wr w1.heap.size m) ∧ Hid (Below w.heap.size w wr)) (fun i _ => len - (intOf i).toNat)
  case atStart => exact ⟨0, ⟨t, 0, bs, 0, 0⟩, Nat.zero_le _, rfl, Lib.hid hok, Lib.hid (HR1.out.alloc _), Lib.hid hM, Lib.hid (HB1.out.alloc HB1.out.size _)⟩
  case round =>
    obtain ⟨k, m, hk, rfl, HK, HR, HM, HB⟩ := hrel
    clear hM
    by_cases hlt : k < len
    · have hkl : k < l.length := by rw [hl.out]; exact hlt
      obtain ⟨o0, o1, o2, o3⟩ := HO.out k hkl
      rw [← HB.out.cell (by exact hb)] at o0 o1 o2 o3
      have hil : (k : Int) < len := by omega
      generalize l[k].k = ok at *
      generalize l[k].n = on at *
      generalize l[k].c = oc at *
      generalize l[k].s = os at *
      by_cases hbig : (200 : Int) < os.length
      · go_wp2_with (go_at_call 23; refine (awake01' _).mono ?_; rintro e w3 ⟨rfl, hb3⟩)
        go_ret
        exact ⟨rfl, nextB (HB.out.alloc HB.out.size _) hb3⟩
      · have hos : os.length ≤ 1000000000 := by omega
        have HD := Lib.hid (fun w' h => do_any w.heap.size m ok on oc os w' h HK.out hos)
        have hmlt := HM.out.lt
        clear HR1 HB1
        generalize w1.heap.size = mb at *
        obtain ⟨⟨c0, c1, c2, c3, c4⟩, g0, g1, g2, g3, g4⟩ := (HM.out.alloc (.cells #[.int .i64 ok, .int .i64 on, .int .i64 oc, .string ⟨os.toArray⟩] 60)).all
        have n1 : mb ≠ w.heap.size := by omega
        have n2 : mb ≠ wr.heap.size := by omega
        have n3 : wr.heap.size ≠ mb := by omega
        go_upto_region 10 with (go_at_call 45; refine (HD.out _ (HR.out.alloc _)).mono ?_; rintro e w2 ⟨rfl, hr2, ho2⟩; obtain ⟨hcc, hff⟩ := ocell ho2; have x0 := hcc mb 0 (by simp; omega) n1; have x1 := hcc mb 1 (by simp; omega) n1; have x2 := hcc mb 2 (by simp; omega) n1; have x3 := hcc mb 3 (by simp; omega) n1; have x4 := hcc mb 4 (by simp; omega) n1; have z0 := hff mb 0 (by simp; omega) n1; have z1 := hff mb 1 (by simp; omega) n1; have z2 := hff mb 2 (by simp; omega) n1; have z3 := hff mb 3 (by simp; omega) n1; have z4 := hff mb 4 (by simp; omega) n1; have HR2 := Lib.hid hr2; have HO2 := Lib.hid ho2; have hs2 := ho2.size; simp at hs2; have n4 : mb ≠ w2.heap.size := (by omega); have n5 : w2.heap.size ≠ mb := (by omega); clear hcc hff hr2 ho2)
        go_goals
        have hm1 : (m.step ok on oc os).Ok := step_ok ok on oc os HK.out
        clear x0 x1 x2 x3 x4 z0 z1 z2 z3 z4 c0 c1 c2 c3 c4 g0 g1 g2 g3 g4 HD
        generalize m.step ok on oc os = m' at *
        have hX : InAt 58 (w2.alloc (.cells #[.string ⟨m'.t.toArray⟩, .int .i64 m'.nx, .int .i64 m'.bs, .int .i64 m'.cd, .int .i64 m'.pl] 58)) w2.heap.size m' := at_a0 _ _ _
        have hM2 : InAt 58 (w2.alloc (.cells #[.string ⟨m'.t.toArray⟩, .int .i64 m'.nx, .int .i64 m'.bs, .int .i64 m'.cd, .int .i64 m'.pl] 58)) mb m := ((HM.out.alloc _).only HO2.out n1).alloc _
        have hR2 := HR2.out.alloc (.cells #[.string ⟨m'.t.toArray⟩, .int .i64 m'.nx, .int .i64 m'.bs, .int .i64 m'.cd, .int .i64 m'.pl] 58)
        have hB2 : Below w.heap.size w (w2.alloc (.cells #[.string ⟨m'.t.toArray⟩, .int .i64 m'.nx, .int .i64 m'.bs, .int .i64 m'.cd, .int .i64 m'.pl] 58)) := (onlyB (HB.out.alloc HB.out.size _) HO2.out (Nat.le_refl _)).alloc (by have := HB.out.size; omega) _
        generalize w2.alloc (.cells #[.string ⟨m'.t.toArray⟩, .int .i64 m'.nx, .int .i64 m'.bs, .int .i64 m'.cd, .int .i64 m'.pl] 58) = W at *
        generalize w2.heap.size = xb at *
        obtain ⟨⟨c0, c1, c2, c3, c4⟩, _, _, _, _, _⟩ := hX.all
        obtain ⟨⟨d0, d1, d2, d3, d4⟩, g0, g1, g2, g3, g4⟩ := hM2.all
        have HM2 := Lib.hid hM2
        have HR3 := Lib.hid hR2
        have HB2 := Lib.hid hB2
        clear hM2 hR2 hB2 hX
        go_upto_region 11 with (fail)
        have hM4 := store5 (v0 := .string ⟨m'.t.toArray⟩) (v1 := .int .i64 m'.nx) (v2 := .int .i64 m'.bs) (v3 := .int .i64 m'.cd) (v4 := .int .i64 m'.pl) HM2.out rfl
        have hM3 : InAt 58 (((((W.setCell ⟨mb, 0, none⟩ (.string ⟨m'.t.toArray⟩)).setCell ⟨mb, 1, none⟩ (.int .i64 m'.nx)).setCell ⟨mb, 2, none⟩ (.int .i64 m'.bs)).setCell ⟨mb, 3, none⟩ (.int .i64 m'.cd)).setCell ⟨mb, 4, none⟩ (.int .i64 m'.pl)) mb m' := hM4
        have n6 : w.heap.size ≠ mb := by omega
        have hR4 : RdAt (((((W.setCell ⟨mb, 0, none⟩ (.string ⟨m'.t.toArray⟩)).setCell ⟨mb, 1, none⟩ (.int .i64 m'.nx)).setCell ⟨mb, 2, none⟩ (.int .i64 m'.bs)).setCell ⟨mb, 3, none⟩ (.int .i64 m'.cd)).setCell ⟨mb, 4, none⟩ (.int .i64 m'.pl)) w.heap.size m' := by repeat (first | with_reducible refine InAt.put ?_ n6 _ | with_reducible exact HR3.out)
        have hB4 : Below w.heap.size w (((((W.setCell ⟨mb, 0, none⟩ (.string ⟨m'.t.toArray⟩)).setCell ⟨mb, 1, none⟩ (.int .i64 m'.nx)).setCell ⟨mb, 2, none⟩ (.int .i64 m'.bs)).setCell ⟨mb, 3, none⟩ (.int .i64 m'.cd)).setCell ⟨mb, 4, none⟩ (.int .i64 m'.pl)) := by repeat (first | with_reducible refine Below.setCell ?_ (show w.heap.size ≤ mb by omega) _ | with_reducible exact HB2.out)
        generalize (((((W.setCell ⟨mb, 0, none⟩ (.string ⟨m'.t.toArray⟩)).setCell ⟨mb, 1, none⟩ (.int .i64 m'.nx)).setCell ⟨mb, 2, none⟩ (.int .i64 m'.bs)).setCell ⟨mb, 3, none⟩ (.int .i64 m'.cd)).setCell ⟨mb, 4, none⟩ (.int .i64 m'.pl)) = V at *
        clear c0 c1 c2 c3 c4 d0 d1 d2 d3 d4 g0 g1 g2 g3 g4 HM2 HR3 HB2 hM4
        obtain ⟨⟨c0, c1, c2, c3, c4⟩, _, _, _, _, _⟩ := hM3.all
        have HRV := Lib.hid hR4
        have HBV := Lib.hid hB4
        have HMV := Lib.hid hM3
        have hmV : mb < V.heap.size := hM3.lt
        clear hM3 hR4 hB4
        have HL := Lib.hid (fun w' h => left_any w.heap.size m' w' h hm1)
        have HL' := Lib.hid (fun w' => rleft_any m' w' hm1)
        have HA := Lib.hid (fun w' h => at_any w.heap.size m' w' h hm1)
        have HF := Lib.hid (fun w' h => fault_any w.heap.size m' w' h)
        have hwr : IntKind.i64.wrap (m'.bs + m'.nx) = m'.bs + m'.nx := by
          obtain ⟨q0, q1, q2, q3⟩ := hm1
          exact IntWalk.i64_in _ (by omega)
        go_region_held3 (fun w' => w'.cell? ⟨mb, 0, none⟩ = some (.string ⟨m'.t.toArray⟩) ∧ w'.cell? ⟨mb, 1, none⟩ = some (.int .i64 m'.nx) ∧ w'.cell? ⟨mb, 2, none⟩ = some (.int .i64 m'.bs) ∧ w'.cell? ⟨mb, 3, none⟩ = some (.int .i64 m'.cd) ∧ w'.cell? ⟨mb, 4, none⟩ = some (.int .i64 m'.pl)) (go_keep)
          (first
            | (go_at_call 41; refine (HL.out _ (by first | exact HRV.out.drewN _ | exact HRV.out)).mono ?_; rintro e w3 ⟨rfl, hb3⟩; obtain ⟨hcc3, hff3⟩ := bcell hb3; have x0 := hcc3 mb 0 (by first | omega | (simp; omega)); have x1 := hcc3 mb 1 (by first | omega | (simp; omega)); have x2 := hcc3 mb 2 (by first | omega | (simp; omega)); have x3 := hcc3 mb 3 (by first | omega | (simp; omega)); have x4 := hcc3 mb 4 (by first | omega | (simp; omega)); have HR3 : Hid (RdAt w3 w.heap.size m') := Lib.hid (by first | exact HRV.out.below hb3 | exact (HRV.out.drewN _).below hb3 | exact ((HRV.out.drewN _).drewN _).below hb3); have HB3 := Lib.hid hb3; have hs3 : mb < w3.heap.size := (by have := hb3.size; first | omega | (simp at this; omega)); clear hb3 hcc3 hff3)
            | (go_at_call 46; refine (HL'.out _).mono ?_; rintro e w4 ⟨rfl, hb4⟩; obtain ⟨hcc4, hff4⟩ := bcell hb4; have y0 := hcc4 mb 0 (by first | omega | (simp; omega)); have y1 := hcc4 mb 1 (by first | omega | (simp; omega)); have y2 := hcc4 mb 2 (by first | omega | (simp; omega)); have y3 := hcc4 mb 3 (by first | omega | (simp; omega)); have y4 := hcc4 mb 4 (by first | omega | (simp; omega)); have HR4 : Hid (RdAt w4 w.heap.size m') := Lib.hid (by first | exact HR3.out.below hb4 | exact (HR3.out.drewN _).below hb4 | exact ((HR3.out.drewN _).drewN _).below hb4); have HB4 := Lib.hid hb4; have hs4 : mb < w4.heap.size := (by have := hb4.size; first | omega | (simp at this; omega)); clear hb4 hcc4 hff4)
            | (go_at_call 47; refine (HA.out _ (by first | exact HR4.out.drewN _ | exact HR4.out)).mono ?_; rintro e w5 ⟨rfl, rfl⟩)
            | (go_at_call 27; refine (HF.out _ (by first | exact HR4.out.drewN _ | exact HR4.out)).mono ?_; rintro e w6 ⟨rfl, hb6⟩; obtain ⟨hcc6, hff6⟩ := bcell hb6; have z0 := hcc6 mb 0 (by first | omega | (simp; omega)); have z1 := hcc6 mb 1 (by first | omega | (simp; omega)); have z2 := hcc6 mb 2 (by first | omega | (simp; omega)); have z3 := hcc6 mb 3 (by first | omega | (simp; omega)); have z4 := hcc6 mb 4 (by first | omega | (simp; omega)); have HB6 := Lib.hid hb6; clear hb6 hcc6 hff6))
        go_wp2_with fail
        have k3 : Below V.heap.size V w3 := ⟨HB3.out.os, HB3.out.tape, HB3.out.output, HB3.out.size, HB3.out.block⟩
        have k4 : Below w3.heap.size w3 w4 := ⟨HB4.out.os, HB4.out.tape, HB4.out.output, HB4.out.size, HB4.out.block⟩
        have k6 : Below w4.heap.size w4 w6 := ⟨HB6.out.os, HB6.out.tape, HB6.out.output, HB6.out.size, HB6.out.block⟩
        refine ⟨⟨k + 1, m', by omega, rfl, Lib.hid hm1, Lib.hid (HR4.out.below k6), Lib.hid (((HMV.out.below k3).below k4).below k6), Lib.hid (nextB (nextB (nextB HBV.out k3) k4) k6)⟩, ?_⟩
        show len - ((k : Int) + 1).toNat < len - (k : Int).toNat
        omega
    · go_wp2_with (go_at_call 23; refine (awake01' _).mono ?_; rintro e w3 ⟨rfl, hb3⟩)
      go_ret
      exact ⟨rfl, nextB HB.out hb3⟩
end Go.Proofs.Ytfbdgahbhlapmaa
