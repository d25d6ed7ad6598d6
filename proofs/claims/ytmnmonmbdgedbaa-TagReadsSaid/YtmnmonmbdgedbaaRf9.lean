/- Layer 15 (tag): the document's inner, walked (printed by gen_rf9.py). -/
import Derived.Test.YtmnmonmbdgedbaaRf6
import Derived.Test.YtmnmonmbdgedbaaTgD
import Derived.Test.YtmnmonmbdgedbaaTg8
namespace Go.Proofs.Ytmnmonmbdgedbaa
open Go.RowKit
set_option linter.unusedVariables false
set_option linter.unusedSimpArgs false

/-- the three boxes of the document's inner -/
structure Nx (w0 w : World) (tb xb : Nat) (v rv fl : Int) (r : Rd) : Prop where
  t : w.heap[tb]? = some (.cells #[.int .i64 v, .int .i64 rv, .int .i64 fl, .slice none 0 0] 40 (0, 0))
  r : InAt 103 w xb r
  z : w.heap[xb + 1]? = some (.cells #[.string ⟨#[]⟩, .int .i64 0, .int .i64 0, .int .i64 0, .int .i64 0] 103 (0, 0))
  k : Below w0.heap.size w0 w
  hw : w0.heap.size ≤ tb
  ht : tb < xb
section
variable {w0 w w' : World} {tb xb c : Nat} {v rv fl : Int} {m : Rd}
theorem Nx.below (h : Nx w0 w tb xb v rv fl m) (k : Below w.heap.size w w') : Nx w0 w' tb xb v rv fl m := ⟨block_below h.t k, h.r.below k, block_below h.z k, nextB h.k k, h.hw, h.ht⟩
theorem Nx.drew (h : Nx w0 w tb xb v rv fl m) : Nx w0 w.drew tb xb v rv fl m := ⟨h.t, h.r, h.z, h.k.drew, h.hw, h.ht⟩
theorem Nx.lt (h : Nx w0 w tb xb v rv fl m) : xb + 1 < w.heap.size := (Array.getElem?_eq_some_iff.1 h.z).1
theorem Nx.only (h : Nx w0 w tb xb v rv fl m) (k : Only c w w') (hc : xb + 1 < c) : Nx w0 w' tb xb v rv fl m := by
  have hw := h.hw
  have ht := h.ht
  exact ⟨block_only h.t k (by omega), h.r.only k (by omega), block_only h.z k (by omega), onlyB h.k k (by omega), hw, ht⟩
theorem Nx.setr (h : Nx w0 w tb xb v rv fl m) (x : Rd) : Nx w0 (((((w.setCell ⟨xb, 0, none⟩ (.string ⟨x.t.toArray⟩)).setCell ⟨xb, 1, none⟩ (.int .i64 x.nx)).setCell ⟨xb, 2, none⟩ (.int .i64 x.bs)).setCell ⟨xb, 3, none⟩ (.int .i64 x.cd)).setCell ⟨xb, 4, none⟩ (.int .i64 x.pl)) tb xb v rv fl x := by
  have hw := h.hw
  have ht := h.ht
  have hl : w0.heap.size ≤ xb := by omega
  exact ⟨(set5_other x (by omega)).trans h.t, store5 h.r rfl, (set5_other x (by omega)).trans h.z, ((((h.k.setCell hl _).setCell hl _).setCell hl _).setCell hl _).setCell hl _, hw, ht⟩
theorem Nx.s (h : Nx w0 w tb xb v rv fl m) : w.cell? ⟨tb, 0, none⟩ = some (.int .i64 v) ∧ w.cell? ⟨tb, 1, none⟩ = some (.int .i64 rv) ∧ w.cell? ⟨tb, 2, none⟩ = some (.int .i64 fl) ∧ w.cell? ⟨tb, 3, none⟩ = some (.slice none 0 0) ∧ w.cell? ⟨xb, 0, none⟩ = some (.string ⟨m.t.toArray⟩) ∧ w.cell? ⟨xb, 1, none⟩ = some (.int .i64 m.nx) ∧ w.cell? ⟨xb, 2, none⟩ = some (.int .i64 m.bs) ∧ w.cell? ⟨xb, 3, none⟩ = some (.int .i64 m.cd) ∧ w.cell? ⟨xb, 4, none⟩ = some (.int .i64 m.pl) := ⟨cell_at (j := 0) (h.t), cell_at (j := 1) (h.t), cell_at (j := 2) (h.t), cell_at (j := 3) (h.t), cell_at (j := 0) (h.r), cell_at (j := 1) (h.r), cell_at (j := 2) (h.r), cell_at (j := 3) (h.r), cell_at (j := 4) (h.r)⟩
theorem Nx.grown {u : Value} {B : Nat} (h : Nx w0 w tb xb v rv fl m) (hg : w.grownBy w' u.ownBlock) (hv : ∀ k, u.ownBlock = some k → B ≤ k) (hB : xb + 1 < B) (hs : B ≤ w.heap.size) : Nx w0 w' tb xb v rv fl m := by
  have hw := h.hw
  have ht := h.ht
  exact ⟨block_grown h.t hg hv (by omega), block_grown h.r hg hv (by omega), block_grown h.z hg hv (by omega), h.k.trans ((tgo_grown (Below.refl B w) hg hv hs).mono (by omega)), hw, ht⟩
end
theorem Nx.leaf5 {w0 wk : World} {tb xb b11 b12 : Nat} {v rv fl : Int} {m : Rd} {u : Value} {L : List (List Value)} {C D : Array Value} {T U : TypeId} (x : Rd) (X : Hid (Nx w0 wk tb xb v rv fl m)) (V : Hid (Recs wk (xb + 1 + 1) T 6 u L)) (G : Hid (wk.heap[b11]? = some (.cells C U (0, 0)))) (hC : C.size = 5) (H : Hid (wk.heap[b12]? = some (.cells D T (0, 0)))) (hl : xb + 1 < b11) (hv : u.ownBlock ≠ some b11) (hne : b11 ≠ b12) :
    ∃ w', (((((wk.setCell ⟨b11, 0, none⟩ (.string ⟨x.t.toArray⟩)).setCell ⟨b11, 1, none⟩ (.int .i64 x.nx)).setCell ⟨b11, 2, none⟩ (.int .i64 x.bs)).setCell ⟨b11, 3, none⟩ (.int .i64 x.cd)).setCell ⟨b11, 4, none⟩ (.int .i64 x.pl)) = w' ∧ Hid (Nx w0 w' tb xb v rv fl m) ∧ Hid (Recs w' (xb + 1 + 1) T 6 u L) ∧ Hid (w'.heap[b11]? = some (.cells #[.string ⟨x.t.toArray⟩, .int .i64 x.nx, .int .i64 x.bs, .int .i64 x.cd, .int .i64 x.pl] U (0, 0))) ∧ Hid (w'.heap[b12]? = some (.cells D T (0, 0))) := by
  have o5 : Only b11 wk (((((wk.setCell ⟨b11, 0, none⟩ (.string ⟨x.t.toArray⟩)).setCell ⟨b11, 1, none⟩ (.int .i64 x.nx)).setCell ⟨b11, 2, none⟩ (.int .i64 x.bs)).setCell ⟨b11, 3, none⟩ (.int .i64 x.cd)).setCell ⟨b11, 4, none⟩ (.int .i64 x.pl)) := ((((Only.set _).trans (Only.set _)).trans (Only.set _)).trans (Only.set _)).trans (Only.set _)
  exact ⟨_, rfl, Lib.hid (X.out.only o5 hl), Lib.hid (V.out.kept (row := some b11) o5 (.inr hv)), Lib.hid (store5 G.out hC), Lib.hid (block_only H.out o5 (Ne.symm hne))⟩
theorem Nx.leaf6 {w0 wk : World} {tb xb b11 b12 : Nat} {v rv fl : Int} {m : Rd} {u : Value} {L : List (List Value)} {C D : Array Value} {T U : TypeId} (f : Fr) (X : Hid (Nx w0 wk tb xb v rv fl m)) (V : Hid (Recs wk (xb + 1 + 1) T 6 u L)) (G : Hid (wk.heap[b12]? = some (.cells C T (0, 0)))) (hC : C.size = 6) (H : Hid (wk.heap[b11]? = some (.cells D U (0, 0)))) (hl : xb + 1 < b12) (hv : u.ownBlock ≠ some b12) (hne : b11 ≠ b12) :
    ∃ w', ((((((wk.setCell ⟨b12, 0, none⟩ (.string ⟨f.id.toArray⟩)).setCell ⟨b12, 1, none⟩ (.int .i64 f.st.toNat)).setCell ⟨b12, 2, none⟩ (.int .i64 f.fm.toNat)).setCell ⟨b12, 3, none⟩ (.int .i64 f.gr.toNat)).setCell ⟨b12, 4, none⟩ (.string ⟨f.bo.toArray⟩)).setCell ⟨b12, 5, none⟩ (.int .i64 f.pl)) = w' ∧ Hid (Nx w0 w' tb xb v rv fl m) ∧ Hid (Recs w' (xb + 1 + 1) T 6 u L) ∧ Hid (w'.heap[b11]? = some (.cells D U (0, 0))) ∧ Hid (w'.heap[b12]? = some (.cells #[.string ⟨f.id.toArray⟩, .int .i64 f.st.toNat, .int .i64 f.fm.toNat, .int .i64 f.gr.toNat, .string ⟨f.bo.toArray⟩, .int .i64 f.pl] T (0, 0))) := by
  have o6 : Only b12 wk ((((((wk.setCell ⟨b12, 0, none⟩ (.string ⟨f.id.toArray⟩)).setCell ⟨b12, 1, none⟩ (.int .i64 f.st.toNat)).setCell ⟨b12, 2, none⟩ (.int .i64 f.fm.toNat)).setCell ⟨b12, 3, none⟩ (.int .i64 f.gr.toNat)).setCell ⟨b12, 4, none⟩ (.string ⟨f.bo.toArray⟩)).setCell ⟨b12, 5, none⟩ (.int .i64 f.pl)) := (((((Only.set _).trans (Only.set _)).trans (Only.set _)).trans (Only.set _)).trans (Only.set _)).trans (Only.set _)
  exact ⟨_, rfl, Lib.hid (X.out.only o6 hl), Lib.hid (V.out.kept (row := some b12) o6 (.inr hv)), Lib.hid (block_only H.out o6 hne), Lib.hid (store6 G.out hC)⟩
theorem Nx.init (w : World) (v rv fl : Int) (m : Rd) : Nx w (((w.alloc (.cells #[.int .i64 v, .int .i64 rv, .int .i64 fl, .slice none 0 0] 40)).alloc (.cells #[.string ⟨m.t.toArray⟩, .int .i64 m.nx, .int .i64 m.bs, .int .i64 m.cd, .int .i64 m.pl] 103)).alloc (.cells #[.string ⟨#[]⟩, .int .i64 0, .int .i64 0, .int .i64 0, .int .i64 0] 103)) w.heap.size (w.heap.size + 1) v rv fl m := by
  have k : ∀ (v : World) (o : Obj), Below v.heap.size v (v.alloc o) := fun v o => (Below.refl _ _).alloc (Nat.le_refl _) o
  refine ⟨block_below (block_below (at_a0 w #[.int .i64 v, .int .i64 rv, .int .i64 fl, .slice none 0 0] 40) (k _ _)) (k _ _), ?_, ?_, ((k w _).alloc (by simp) _).alloc (by simp; omega) _, Nat.le_refl _, by omega⟩
  · have h := block_below (at_a0 (w.alloc (.cells #[.int .i64 v, .int .i64 rv, .int .i64 fl, .slice none 0 0] 40)) #[.string ⟨m.t.toArray⟩, .int .i64 m.nx, .int .i64 m.bs, .int .i64 m.cd, .int .i64 m.pl] 103) (k _ (.cells #[.string ⟨#[]⟩, .int .i64 0, .int .i64 0, .int .i64 0, .int .i64 0] 103))
    simpa [InAt] using h
  · have h := at_a0 ((w.alloc (.cells #[.int .i64 v, .int .i64 rv, .int .i64 fl, .slice none 0 0] 40)).alloc (.cells #[.string ⟨m.t.toArray⟩, .int .i64 m.nx, .int .i64 m.bs, .int .i64 m.cd, .int .i64 m.pl] 103)) #[.string ⟨#[]⟩, .int .i64 0, .int .i64 0, .int .i64 0, .int .i64 0] 103
    simpa using h
theorem fparse_cd {v : Int} {sp : Bool} {m : Rd} (h : (frParse v sp m).2.2 = true) : (frParse v sp m).1.cd = 0 := by
  unfold frParse at h ⊢
  split at h
  · cases h
  · rename_i h1
    rw [if_neg h1]
    unfold frEnd at h ⊢
    split at h
    · cases h
    · rename_i h2
      rw [if_neg h2]
      split at h
      · cases h
      · rename_i h3
        rw [if_neg h3]
        exact Classical.byContradiction h2
def RInner (p : Rd × List Fr) (w : World) (e : Ending) (w' : World) : Prop := ∃ (y : Rd) (a : Option Addr) (n cap : Nat), y.cd = p.1.cd ∧ (p.1.cd ≠ 0 → y.pl = p.1.pl) ∧ e = .returned (.tuple #[rdV y, .slice a n cap]) ∧ (p.1.cd = 0 → Recs w' w.heap.size 100 6 (.slice a n cap) (p.2.map rfR)) ∧ Below w.heap.size w w'
set_option maxHeartbeats 16000000 in
set_option maxRecDepth 100000 in
theorem rinner_core (v : Int) (rv fl : Nat) (sp ext : Bool) (m0 m1 : Rd) (w : World) (hv : v = 2 ∨ v = 3 ∨ v = 4) (hb0 : 0 ≤ m0.bs) (hb1 : m0.bs ≤ 1000000000000) (hn1 : (m0.nx : Int) ≤ 1000000000)
    (ok1 : m1.Ok) (bs1 : m1.bs ≤ 1000000000000) (tl1 : m1.t.length ≤ 24000)
    (B6 : Hid (v = 2 ∧ ext = false ∨ (v = 3 ∨ v = 4) ∧ Hid (∀ w, Calls Try.prog 28 #[.int .i64 (fl : Nat), .int .i64 64] w fun e w' => e = .returned (.bool ext) ∧ w = w')))
    (BT : Hid (∀ w, Calls Try.prog 28 #[.int .i64 (fl : Nat), .int .i64 128] w fun e w' => e = .returned (.bool sp) ∧ w = w'))
    (hext : Hid ((ext = false ∧ m1 = m0) ∨
      (ext = true ∧ v = 3 ∧ ∃ (m2 : Rd) (s : List UInt8) (n : Nat) (s2 : List UInt8), n ≤ 8589934592 ∧ Hid (∀ w, Calls Try.prog 68 #[.agg #[.string ⟨m0.t.toArray⟩, .int .i64 m0.nx, .int .i64 m0.bs, .int .i64 m0.cd, .int .i64 m0.pl], .int .i64 4] w fun e w' => e = .returned (.tuple #[.agg #[.string ⟨m2.t.toArray⟩, .int .i64 m2.nx, .int .i64 m2.bs, .int .i64 m2.cd, .int .i64 m2.pl], .string ⟨s.toArray⟩]) ∧ Below w.heap.size w w') ∧ Hid (∀ w, Calls Try.prog 104 #[.string ⟨s.toArray⟩] w fun e w' => e = .returned (.int .u64 (n : Nat)) ∧ w = w') ∧ Hid (∀ w, Calls Try.prog 68 #[.agg #[.string ⟨m2.t.toArray⟩, .int .i64 m2.nx, .int .i64 m2.bs, .int .i64 m2.cd, .int .i64 m2.pl], .int .i64 (n : Nat)] w fun e w' => e = .returned (.tuple #[.agg #[.string ⟨m1.t.toArray⟩, .int .i64 m1.nx, .int .i64 m1.bs, .int .i64 m1.cd, .int .i64 m1.pl], .string ⟨s2.toArray⟩]) ∧ Below w.heap.size w w')) ∨
      (ext = true ∧ v = 4 ∧ ∃ (m2 m3 : Rd) (n : Int) (s2 : List UInt8), 0 ≤ n ∧ n ≤ 8589934592 ∧ Hid (∀ w, Calls Try.prog 102 #[.agg #[.string ⟨m0.t.toArray⟩, .int .i64 m0.nx, .int .i64 m0.bs, .int .i64 m0.cd, .int .i64 m0.pl]] w fun e w' => e = .returned (.tuple #[.agg #[.string ⟨m2.t.toArray⟩, .int .i64 m2.nx, .int .i64 m2.bs, .int .i64 m2.cd, .int .i64 m2.pl], .int .i64 n]) ∧ Below w.heap.size w w') ∧ ((n < 6 ∧ Hid (∀ w, Calls Try.prog 101 #[.agg #[.string ⟨m2.t.toArray⟩, .int .i64 m2.nx, .int .i64 m2.bs, .int .i64 m2.cd, .int .i64 m2.pl], .int .i64 1, .int .i64 (m0.bs + (m0.nx : Int))] w fun e w' => e = .returned (.agg #[.string ⟨m3.t.toArray⟩, .int .i64 m3.nx, .int .i64 m3.bs, .int .i64 m3.cd, .int .i64 m3.pl]) ∧ Below w.heap.size w w')) ∨ (¬ n < 6 ∧ m3 = m2)) ∧ Hid (∀ w, Calls Try.prog 68 #[.agg #[.string ⟨m3.t.toArray⟩, .int .i64 m3.nx, .int .i64 m3.bs, .int .i64 m3.cd, .int .i64 m3.pl], .int .i64 (n - 4)] w fun e w' => e = .returned (.tuple #[.agg #[.string ⟨m1.t.toArray⟩, .int .i64 m1.nx, .int .i64 m1.bs, .int .i64 m1.cd, .int .i64 m1.pl], .string ⟨s2.toArray⟩]) ∧ Below w.heap.size w w'))))
    : Calls Try.prog 70 #[.agg #[.int .i64 v, .int .i64 (rv : Nat), .int .i64 (fl : Nat), .slice none 0 0], rdV m0] w (RInner (frsM v sp m1) w) := by
  have wa : IntKind.i64.wrap (m0.bs + (m0.nx : Int)) = m0.bs + (m0.nx : Int) := IntWalk.i64_in _ (by omega)
  obtain ⟨res, hres⟩ : ∃ r, r = frsS v sp (m1.t.length + 1) m1 [] := ⟨_, rfl⟩
  have HRES : Hid (frsM v sp m1 = (padM res.1, res.2)) := Lib.hid (by rw [hres]; rfl)
  have HST := Lib.hid hres.symm
  clear hres
  have HV := Lib.hid hv
  clear hv
  go_enter Try.func70, Try.ntmps70
  go_upto_region 1 with (fail)
  have X := Lib.hid (Nx.init w v (rv : Nat) (fl : Nat) m0)
  obtain ⟨xb, hxb⟩ : ∃ xb, xb = w.heap.size + 1 := ⟨_, rfl⟩
  rw [← hxb] at X
  rw [← hxb]
  clear hxb
  generalize ((w.alloc (.cells #[.int .i64 v, .int .i64 (rv : Nat), .int .i64 (fl : Nat), .slice none 0 0] 40)).alloc (.cells #[.string ⟨m0.t.toArray⟩, .int .i64 m0.nx, .int .i64 m0.bs, .int .i64 m0.cd, .int .i64 m0.pl] 103)).alloc (.cells #[.string ⟨#[]⟩, .int .i64 0, .int .i64 0, .int .i64 0, .int .i64 0] 103) = wv at *
  obtain ⟨tb, htb⟩ : ∃ tb, tb = w.heap.size := ⟨_, rfl⟩
  rw [← htb] at X
  rw [← htb]
  clear htb
  have ht := X.out.ht
  have qa := X.out.r.all; obtain ⟨⟨q0, q1, q2, q3, q4⟩, qf0, qf1, qf2, qf3, qf4⟩ := qa; obtain ⟨t0, t1, t2, t3⟩ := cells4 (X.out.t); obtain ⟨tf0, tf1, tf2, tf3⟩ := frees4 (X.out.t)
  go_cut [2, 3, 22] (fun s2 s3 s22 wx => s2 = .pointer (some ⟨tb, 0, none⟩) ∧ s3 = .pointer (some ⟨xb, 0, none⟩) ∧ s22 = .bool ext ∧ Hid (Nx w wx tb xb v (rv : Nat) (fl : Nat) m0))
  case first =>
    rcases B6.out with ⟨rfl, rfl⟩ | ⟨rfl | rfl, BX⟩
    all_goals (
      go_wp2_with (go_at_call 28; refine (BX.out _).mono ?_; rintro e wx ⟨rfl, rfl⟩)
      go_meet
      exact ⟨rfl, rfl, rfl, X⟩)
  case rest =>
    obtain ⟨rfl, rfl, rfl, X2⟩ := hcut
    clear X
    clear q0 q1 q2 q3 q4 qf0 qf1 qf2 qf3 qf4 t0 t1 t2 t3 tf0 tf1 tf2 tf3
    have X := X2
    clear X2
    have qa := X.out.r.all; obtain ⟨⟨q0, q1, q2, q3, q4⟩, qf0, qf1, qf2, qf3, qf4⟩ := qa; obtain ⟨t0, t1, t2, t3⟩ := cells4 (X.out.t); obtain ⟨tf0, tf1, tf2, tf3⟩ := frees4 (X.out.t)
    go_upto_if 22 with (fail)
    go_cut [2, 3] (fun s2 s3 wx => s2 = .pointer (some ⟨tb, 0, none⟩) ∧ s3 = .pointer (some ⟨xb, 0, none⟩) ∧ Hid (Nx w wx tb xb v (rv : Nat) (fl : Nat) m1))
    case first =>
      have he := hext.out
      clear hext
      rcases he with ⟨rfl, rfl⟩ | ⟨rfl, rfl, m2, s, n, s2, hn, T4, NB, TN⟩ | ⟨rfl, rfl, m2, m3, n, s2, hn0, hn, RS, h6, TN⟩
      · go_wp2_with fail
        go_meet
        exact ⟨rfl, rfl, X⟩
      · have wn : IntKind.i64.wrap (n : Int) = n := IntWalk.i64_in _ (by omega)
        go_upto_region 6 with (go_at_call 68; (with_reducible refine (T4.out _).mono ?_); rintro e w5 ⟨rfl, hb⟩; clear q0 q1 q2 q3 q4 qf0 qf1 qf2 qf3 qf4 t0 t1 t2 t3 tf0 tf1 tf2 tf3; replace X := Lib.hid (X.out.below hb); clear hb)
        have Y := Lib.hid (at_a0 w5 #[.string ⟨m2.t.toArray⟩, .int .i64 m2.nx, .int .i64 m2.bs, .int .i64 m2.cd, .int .i64 m2.pl] 103)
        replace X := Lib.hid (X.out.below ((Below.refl w5.heap.size w5).alloc (Nat.le_refl _) (.cells #[.string ⟨m2.t.toArray⟩, .int .i64 m2.nx, .int .i64 m2.bs, .int .i64 m2.cd, .int .i64 m2.pl] 103)))
        generalize w5.alloc (.cells #[.string ⟨m2.t.toArray⟩, .int .i64 m2.nx, .int .i64 m2.bs, .int .i64 m2.cd, .int .i64 m2.pl] 103) = w6 at *
        generalize w5.heap.size = yb at *
        have qa := X.out.r.all; obtain ⟨⟨q0, q1, q2, q3, q4⟩, qf0, qf1, qf2, qf3, qf4⟩ := qa; obtain ⟨t0, t1, t2, t3⟩ := cells4 (X.out.t); obtain ⟨tf0, tf1, tf2, tf3⟩ := frees4 (X.out.t)
        obtain ⟨y0, y1, y2, y3, y4⟩ := cells5 (Y.out)
        go_wp2_with (first | (go_at_call 104; (with_reducible refine (NB.out _).mono ?_); rintro e wx ⟨rfl, rfl⟩) | (go_at_call 68; (with_reducible refine (TN.out _).mono ?_); rintro e w7 ⟨rfl, hb⟩; clear q0 q1 q2 q3 q4 qf0 qf1 qf2 qf3 qf4 t0 t1 t2 t3 tf0 tf1 tf2 tf3; clear y0 y1 y2 y3 y4; replace X := Lib.hid ((X.out.setr m2).below hb); clear hb; have qa := X.out.r.all; obtain ⟨⟨q0, q1, q2, q3, q4⟩, qf0, qf1, qf2, qf3, qf4⟩ := qa; obtain ⟨t0, t1, t2, t3⟩ := cells4 (X.out.t); obtain ⟨tf0, tf1, tf2, tf3⟩ := frees4 (X.out.t)))
        go_meet
        exact ⟨rfl, rfl, Lib.hid (X.out.setr m1)⟩
      · have wn : IntKind.i64.wrap (n - 4) = n - 4 := IntWalk.i64_in _ (by omega)
        rcases h6 with ⟨h6, FL⟩ | ⟨h6, rfl⟩
        · go_wp2_with (first | (go_at_call 102; (with_reducible refine (RS.out _).mono ?_); rintro e w5 ⟨rfl, hb⟩; clear q0 q1 q2 q3 q4 qf0 qf1 qf2 qf3 qf4 t0 t1 t2 t3 tf0 tf1 tf2 tf3; replace X := Lib.hid (X.out.below hb); clear hb; have qa := X.out.r.all; obtain ⟨⟨q0, q1, q2, q3, q4⟩, qf0, qf1, qf2, qf3, qf4⟩ := qa; obtain ⟨t0, t1, t2, t3⟩ := cells4 (X.out.t); obtain ⟨tf0, tf1, tf2, tf3⟩ := frees4 (X.out.t)) | (go_at_call 101; (with_reducible refine (FL.out _).mono ?_); rintro e w7 ⟨rfl, hb⟩; clear q0 q1 q2 q3 q4 qf0 qf1 qf2 qf3 qf4 t0 t1 t2 t3 tf0 tf1 tf2 tf3; replace X := Lib.hid ((X.out.setr m2).below hb); clear hb; have qa := X.out.r.all; obtain ⟨⟨q0, q1, q2, q3, q4⟩, qf0, qf1, qf2, qf3, qf4⟩ := qa; obtain ⟨t0, t1, t2, t3⟩ := cells4 (X.out.t); obtain ⟨tf0, tf1, tf2, tf3⟩ := frees4 (X.out.t)) | (go_at_call 68; (with_reducible refine (TN.out _).mono ?_); rintro e w6 ⟨rfl, hb⟩; clear q0 q1 q2 q3 q4 qf0 qf1 qf2 qf3 qf4 t0 t1 t2 t3 tf0 tf1 tf2 tf3; replace X := Lib.hid ((X.out.setr m3).below hb); clear hb; have qa := X.out.r.all; obtain ⟨⟨q0, q1, q2, q3, q4⟩, qf0, qf1, qf2, qf3, qf4⟩ := qa; obtain ⟨t0, t1, t2, t3⟩ := cells4 (X.out.t); obtain ⟨tf0, tf1, tf2, tf3⟩ := frees4 (X.out.t)))
          go_meet
          exact ⟨rfl, rfl, Lib.hid (X.out.setr m1)⟩
        · go_wp2_with (first | (go_at_call 102; (with_reducible refine (RS.out _).mono ?_); rintro e w5 ⟨rfl, hb⟩; clear q0 q1 q2 q3 q4 qf0 qf1 qf2 qf3 qf4 t0 t1 t2 t3 tf0 tf1 tf2 tf3; replace X := Lib.hid (X.out.below hb); clear hb; have qa := X.out.r.all; obtain ⟨⟨q0, q1, q2, q3, q4⟩, qf0, qf1, qf2, qf3, qf4⟩ := qa; obtain ⟨t0, t1, t2, t3⟩ := cells4 (X.out.t); obtain ⟨tf0, tf1, tf2, tf3⟩ := frees4 (X.out.t)) | (go_at_call 68; (with_reducible refine (TN.out _).mono ?_); rintro e w6 ⟨rfl, hb⟩; clear q0 q1 q2 q3 q4 qf0 qf1 qf2 qf3 qf4 t0 t1 t2 t3 tf0 tf1 tf2 tf3; replace X := Lib.hid ((X.out.setr m3).below hb); clear hb; have qa := X.out.r.all; obtain ⟨⟨q0, q1, q2, q3, q4⟩, qf0, qf1, qf2, qf3, qf4⟩ := qa; obtain ⟨t0, t1, t2, t3⟩ := cells4 (X.out.t); obtain ⟨tf0, tf1, tf2, tf3⟩ := frees4 (X.out.t)))
          go_meet
          exact ⟨rfl, rfl, Lib.hid (X.out.setr m1)⟩
    case rest =>
      obtain ⟨rfl, rfl, X2⟩ := hcut
      clear X hext B6 wa
      clear q0 q1 q2 q3 q4 qf0 qf1 qf2 qf3 qf4 t0 t1 t2 t3 tf0 tf1 tf2 tf3
      have X := X2
      clear X2
      go_wp2
      go_loopg [10] (m1.t.length + 1) (fun gk u wr => ∃ (m : Rd) (fs : List Fr), m.Ok ∧ m.bs ≤ 1000000000000 ∧ m.t.length ≤ 24000 ∧ m.t.length - m.nx < gk ∧ fs.length * 6 ≤ m.nx ∧ Hid (frsS v sp gk m fs = res) ∧ Hid (Nx w wr tb xb v (rv : Nat) (fl : Nat) m) ∧ Hid (Recs wr (xb + 1 + 1) 100 6 u (fs.map rfR)))
      case atStart => exact ⟨m1, [], ok1, bs1, tl1, by omega, Nat.zero_le _, HST, X, Lib.hid (Recs.nil _ _ _ _)⟩
      case round =>
        clear X HST ok1 bs1 tl1
        obtain ⟨m, fs, hm, hb, htl, hgk, hfs, HA, X, V⟩ := hrel
        obtain ⟨g, rfl⟩ : ∃ g, gk = g + 1 := ⟨gk - 1, by omega⟩
        have PA := Lib.hid (fun w => rparse13_any v sp m w hm (by omega) hb)
        have hon := fun h => fparse_on (v := v) (sp := sp) hm h
        have hcd := fun h => fparse_cd (v := v) (sp := sp) (m := m) h
        have hst := fun h => fparse_stay (v := v) (sp := sp) hm (by omega) h
        obtain ⟨pm, hpm⟩ : ∃ x, x = frParse v sp m := ⟨_, rfl⟩
        have hA := HA.out
        rw [frsS] at hA
        rw [← hpm] at hA PA hon hst hcd
        clear hpm HA
        obtain ⟨m', f, ok⟩ := pm
        simp only at hA hon hst hcd
        unfold RPars rdV rfV at PA
        simp only at PA
        have HON := Lib.hid hon
        have HCD := Lib.hid hcd
        have HST := Lib.hid hst
        have HA := Lib.hid hA
        clear hon hcd hst hA
        have qa := X.out.r.all; obtain ⟨⟨q0, q1, q2, q3, q4⟩, qf0, qf1, qf2, qf3, qf4⟩ := qa; obtain ⟨t0, t1, t2, t3⟩ := cells4 (X.out.t); obtain ⟨tf0, tf1, tf2, tf3⟩ := frees4 (X.out.t)
        go_upto_region 14 with (fail)
        clear q0 q1 q2 q3 q4 qf0 qf1 qf2 qf3 qf4 t0 t1 t2 t3 tf0 tf1 tf2 tf3
        go_cut [11, 12, 13] (fun s11 s12 s13 wx => ∃ (b11 b12 : Nat) (x : Rd), xb + 1 < b11 ∧ xb + 1 < b12 ∧ s11 = .pointer (some ⟨b11, 0, none⟩) ∧ s12 = .pointer (some ⟨b12, 0, none⟩) ∧ s13 = .bool ok ∧ Hid (Like m' x) ∧ Hid (Nx w wx tb xb v (rv : Nat) (fl : Nat) m) ∧ Hid (Recs wx (xb + 1 + 1) 100 6 u10 (fs.map rfR)) ∧ Hid (wx.heap[b11]? = some (.cells #[.string ⟨x.t.toArray⟩, .int .i64 x.nx, .int .i64 x.bs, .int .i64 x.cd, .int .i64 x.pl] 103 (0, 0))) ∧ Hid (wx.heap[b12]? = some (.cells #[.string ⟨f.id.toArray⟩, .int .i64 f.st.toNat, .int .i64 f.fm.toNat, .int .i64 f.gr.toNat, .string ⟨f.bo.toArray⟩, .int .i64 f.pl] 100 (0, 0))))
        case first =>
          refine wp_region_noPanic ?_
          have xx := X.out.s
          refine wp_region_held_drew (S := fun w' => w'.cell? ⟨tb, 0, none⟩ = some (.int .i64 v) ∧ w'.cell? ⟨tb, 1, none⟩ = some (.int .i64 rv) ∧ w'.cell? ⟨tb, 2, none⟩ = some (.int .i64 fl) ∧ w'.cell? ⟨tb, 3, none⟩ = some (.slice none 0 0) ∧ w'.cell? ⟨xb, 0, none⟩ = some (.string ⟨m.t.toArray⟩) ∧ w'.cell? ⟨xb, 1, none⟩ = some (.int .i64 m.nx) ∧ w'.cell? ⟨xb, 2, none⟩ = some (.int .i64 m.bs) ∧ w'.cell? ⟨xb, 3, none⟩ = some (.int .i64 m.cd) ∧ w'.cell? ⟨xb, 4, none⟩ = some (.int .i64 m.pl)) (by kernel_rfl) xx (fun hHeld => ?_)
          clear hHeld
          try simp only [Act.put, List.setIfInBounds_toArray, List.set_cons_zero, List.set_cons_succ, List.getElem_toArray, List.getElem_cons_zero, List.getElem_cons_succ]
          replace X := Lib.hid X.out.drew
          replace V := Lib.hid (V.out.below ((Below.refl wr.heap.size wr).drew))
          replace xx := X.out.s
          generalize World.drew wr = wz0 at *
          refine wpAnyH_take (i := 0) (v := ?vn1) rfl (by kernel_rfl) (by kernel_rfl) (by kernel_rfl) (fun _ _ _ h => h) (Or.inl ⟨by rfl, ?hyn1⟩) xx ?rn1
          case hyn1 => (intro w hSw; (try dsimp only at hSw); go_simp; first | done | with_reducible rfl)
          try simp only [Act.put, List.setIfInBounds_toArray, List.set_cons_zero, List.set_cons_succ, List.getElem_toArray, List.getElem_cons_zero, List.getElem_cons_succ]
          refine wpAnyH_take (i := 1) (v := ?vn2) rfl (by kernel_rfl) (by kernel_rfl) (by kernel_rfl) (fun _ _ _ h => h) (Or.inl ⟨by rfl, ?hyn2⟩) xx ?rn2
          case hyn2 => (intro w hSw; (try dsimp only at hSw); go_simp; first | done | with_reducible rfl)
          try simp only [Act.put, List.setIfInBounds_toArray, List.set_cons_zero, List.set_cons_succ, List.getElem_toArray, List.getElem_cons_zero, List.getElem_cons_succ]
          refine wpAnyH_take (i := 2) (v := ?vn3) rfl (by kernel_rfl) (by kernel_rfl) (by kernel_rfl) (fun _ _ _ h => h) (Or.inl ⟨by rfl, ?hyn3⟩) xx ?rn3
          case hyn3 => (intro w hSw; (try dsimp only at hSw); go_simp; first | done | with_reducible rfl)
          try simp only [Act.put, List.setIfInBounds_toArray, List.set_cons_zero, List.set_cons_succ, List.getElem_toArray, List.getElem_cons_zero, List.getElem_cons_succ]
          refine wpAnyH_take (i := 3) (v := ?vn4) rfl (by kernel_rfl) (by kernel_rfl) (by kernel_rfl) (fun _ _ _ h => h) (Or.inl ⟨by rfl, ?hyn4⟩) xx ?rn4
          case hyn4 => (intro w hSw; (try dsimp only at hSw); go_simp; first | done | with_reducible rfl)
          try simp only [Act.put, List.setIfInBounds_toArray, List.set_cons_zero, List.set_cons_succ, List.getElem_toArray, List.getElem_cons_zero, List.getElem_cons_succ]
          refine wpAnyH_take (i := 4) (v := ?vn5) rfl (by kernel_rfl) (by kernel_rfl) (by kernel_rfl) (fun _ _ _ h => h) (Or.inl ⟨by rfl, ?hyn5⟩) xx ?rn5
          case hyn5 => (intro w hSw; (try dsimp only at hSw); go_simp; first | done | with_reducible rfl)
          try simp only [Act.put, List.setIfInBounds_toArray, List.set_cons_zero, List.set_cons_succ, List.getElem_toArray, List.getElem_cons_zero, List.getElem_cons_succ]
          refine wpAnyH_ready (rs := [5, 11, 12]) (by kernel_rfl) (by simp) ?_
          refine AllReadyH.cons rfl (fun K hK => ?_) ?_
          · go_simp
            (go_at_call 28; refine (BT.out _).mono ?_; rintro e wx ⟨rfl, rfl⟩)
            refine hK.out _ _ xx (fun hHeld => ?_)
            clear hK K hHeld
            try simp only [Act.put, List.setIfInBounds_toArray, List.set_cons_zero, List.set_cons_succ, List.getElem_toArray, List.getElem_cons_zero, List.getElem_cons_succ]
            refine wpAnyH_ready (rs := [6, 11, 12]) (by kernel_rfl) (by simp) ?_
            refine AllReadyH.cons rfl (fun K hK => ?_) ?_
            · go_simp
              (go_at_call 105; (with_reducible refine (PA.out _).mono ?_); rintro e wz1 ⟨x9, hlk, rfl, hb⟩)
              have HLK := Lib.hid hlk
              clear hlk
              replace X := Lib.hid (X.out.below hb)
              replace V := Lib.hid (V.out.below hb)
              clear hb
              replace xx := X.out.s
              refine hK.out _ _ xx (fun hHeld => ?_)
              clear hK K hHeld
              try simp only [Act.put, List.setIfInBounds_toArray, List.set_cons_zero, List.set_cons_succ, List.getElem_toArray, List.getElem_cons_zero, List.getElem_cons_succ]
              refine wpAnyH_take (i := 7) (v := ?vn6) rfl (by kernel_rfl) (by kernel_rfl) (by kernel_rfl) (fun _ _ _ h => h) (Or.inl ⟨by rfl, ?hyn6⟩) xx ?rn6
              case hyn6 => (intro w hSw; (try dsimp only at hSw); go_simp; first | done | with_reducible rfl)
              try simp only [Act.put, List.setIfInBounds_toArray, List.set_cons_zero, List.set_cons_succ, List.getElem_toArray, List.getElem_cons_zero, List.getElem_cons_succ]
              refine wpAnyH_take (i := 8) (v := ?vn7) rfl (by kernel_rfl) (by kernel_rfl) (by kernel_rfl) (fun _ _ _ h => h) (Or.inl ⟨by rfl, ?hyn7⟩) xx ?rn7
              case hyn7 => (intro w hSw; (try dsimp only at hSw); go_simp; first | done | with_reducible rfl)
              try simp only [Act.put, List.setIfInBounds_toArray, List.set_cons_zero, List.set_cons_succ, List.getElem_toArray, List.getElem_cons_zero, List.getElem_cons_succ]
              refine wpAnyH_take (i := 9) (v := ?vn8) rfl (by kernel_rfl) (by kernel_rfl) (by kernel_rfl) (fun _ _ _ h => h) (Or.inl ⟨by rfl, ?hyn8⟩) xx ?rn8
              case hyn8 => (intro w hSw; (try dsimp only at hSw); go_simp; first | done | with_reducible rfl)
              try simp only [Act.put, List.setIfInBounds_toArray, List.set_cons_zero, List.set_cons_succ, List.getElem_toArray, List.getElem_cons_zero, List.getElem_cons_succ]
              refine wpAnyH_take (i := 10) (v := ?vn9) rfl (by kernel_rfl) (by kernel_rfl) (by kernel_rfl) (fun _ _ _ h => h) (Or.inl ⟨by rfl, ?hyn9⟩) xx ?rn9
              case hyn9 => (intro w hSw; (try dsimp only at hSw); go_simp; first | done | with_reducible rfl)
              try simp only [Act.put, List.setIfInBounds_toArray, List.set_cons_zero, List.set_cons_succ, List.getElem_toArray, List.getElem_cons_zero, List.getElem_cons_succ]
              refine wpAnyH_ready (rs := [11, 12]) (by kernel_rfl) (by simp) ?_
              refine AllReadyH.cons rfl (fun K hK => ?_) ?_
              · go_simp
                have AL := Lib.hid ((Below.refl wz1.heap.size wz1).alloc (Nat.le_refl _) (.cells #[.string ⟨#[]⟩, .int .i64 0, .int .i64 0, .int .i64 0, .int .i64 0] 103))
                have hv11 : u10.ownBlock ≠ some wz1.heap.size := fun e => by have := (V.out.lt _ e).2; omega
                have hl11 : xb + 1 < wz1.heap.size := X.out.lt
                have G11 := Lib.hid (at_a0 wz1 #[.string ⟨#[]⟩, .int .i64 0, .int .i64 0, .int .i64 0, .int .i64 0] 103)
                replace X := Lib.hid (X.out.below AL.out)
                replace V := Lib.hid (V.out.below AL.out)
                clear AL
                replace xx := X.out.s
                generalize wz1.alloc (.cells #[.string ⟨#[]⟩, .int .i64 0, .int .i64 0, .int .i64 0, .int .i64 0] 103) = wz2 at *
                generalize wz1.heap.size = b11 at *
                refine hK.out _ _ xx (fun hHeld => ?_)
                clear hK K hHeld
                try simp only [Act.put, List.setIfInBounds_toArray, List.set_cons_zero, List.set_cons_succ, List.getElem_toArray, List.getElem_cons_zero, List.getElem_cons_succ]
                refine wpAnyH_ready (rs := [12]) (by kernel_rfl) (by simp) ?_
                refine AllReadyH.cons rfl (fun K hK => ?_) AllReadyH.nil
                go_simp
                have AL := Lib.hid ((Below.refl wz2.heap.size wz2).alloc (Nat.le_refl _) (.cells #[.string ⟨#[]⟩, .int .i64 0, .int .i64 0, .int .i64 0, .string ⟨#[]⟩, .int .i64 0] 100))
                have hv12 : u10.ownBlock ≠ some wz2.heap.size := fun e => by have := (V.out.lt _ e).2; omega
                have hl12 : xb + 1 < wz2.heap.size := X.out.lt
                have hne : b11 ≠ wz2.heap.size := by have := (Array.getElem?_eq_some_iff.1 G11.out).1; omega
                replace G11 := Lib.hid (block_below G11.out AL.out)
                have G12 := Lib.hid (at_a0 wz2 #[.string ⟨#[]⟩, .int .i64 0, .int .i64 0, .int .i64 0, .string ⟨#[]⟩, .int .i64 0] 100)
                replace X := Lib.hid (X.out.below AL.out)
                replace V := Lib.hid (V.out.below AL.out)
                clear AL
                replace xx := X.out.s
                generalize wz2.alloc (.cells #[.string ⟨#[]⟩, .int .i64 0, .int .i64 0, .int .i64 0, .string ⟨#[]⟩, .int .i64 0] 100) = wz3 at *
                generalize wz2.heap.size = b12 at *
                refine hK.out _ _ xx (fun hHeld => ?_)
                clear hK K hHeld
                try simp only [Act.put, List.setIfInBounds_toArray, List.set_cons_zero, List.set_cons_succ, List.getElem_toArray, List.getElem_cons_zero, List.getElem_cons_succ]
                obtain ⟨p0, p1, p2, p3, p4⟩ := cells5 (G11.out); obtain ⟨pf0, pf1, pf2, pf3, pf4⟩ := frees5 (G11.out)
                refine wpAnyH_ready (rs := [13]) (by kernel_rfl) (by simp) ?_
                refine AllReadyH.cons rfl (fun K hK => ?_) AllReadyH.nil
                go_simp
                obtain ⟨wy, hwy, X, V, G11, G12⟩ := Nx.leaf5 x9 X V G11 rfl G12 hl11 hv11 hne
                rw [hwy]
                clear hwy p0 p1 p2 p3 p4 pf0 pf1 pf2 pf3 pf4
                replace xx := X.out.s
                refine hK.out _ _ xx (fun hHeld => ?_)
                clear hK K hHeld
                try simp only [Act.put, List.setIfInBounds_toArray, List.set_cons_zero, List.set_cons_succ, List.getElem_toArray, List.getElem_cons_zero, List.getElem_cons_succ]
                obtain ⟨p0, p1, p2, p3, p4, p5⟩ := cells6 (G12.out); obtain ⟨pf0, pf1, pf2, pf3, pf4, pf5⟩ := frees6 (G12.out)
                refine wpAnyH_ready (rs := [14]) (by kernel_rfl) (by simp) ?_
                refine AllReadyH.cons rfl (fun K hK => ?_) AllReadyH.nil
                go_simp
                obtain ⟨wx, hwy, X, V, G11, G12⟩ := Nx.leaf6 f X V G12 rfl G11 hl12 hv12 hne
                rw [hwy]
                clear hwy p0 p1 p2 p3 p4 p5 pf0 pf1 pf2 pf3 pf4 pf5
                replace xx := X.out.s
                refine hK.out _ _ xx (fun hHeld => ?_)
                clear hK K hHeld
                try simp only [Act.put, List.setIfInBounds_toArray, List.set_cons_zero, List.set_cons_succ, List.getElem_toArray, List.getElem_cons_zero, List.getElem_cons_succ]
                refine wpAnyH_take (i := 15) (v := ?vn10) rfl (by kernel_rfl) (by kernel_rfl) (by kernel_rfl) (fun _ _ _ h => h) (Or.inl ⟨by rfl, ?hyn10⟩) xx ?rn10
                case hyn10 => (intro w hSw; (try dsimp only at hSw); go_simp; first | done | with_reducible rfl)
                try simp only [Act.put, List.setIfInBounds_toArray, List.set_cons_zero, List.set_cons_succ, List.getElem_toArray, List.getElem_cons_zero, List.getElem_cons_succ]
                refine wpAnyH_done (by kernel_rfl) ?_ _
                refine NoPanic.normal ?_
                go_wp2_with fail
                go_meet
                exact ⟨b11, b12, x9, hl11, hl12, rfl, rfl, rfl, HLK, X, V, G11, G12⟩
              refine AllReadyH.cons rfl (fun K hK => ?_) AllReadyH.nil
              go_simp
              have AL := Lib.hid ((Below.refl wz1.heap.size wz1).alloc (Nat.le_refl _) (.cells #[.string ⟨#[]⟩, .int .i64 0, .int .i64 0, .int .i64 0, .string ⟨#[]⟩, .int .i64 0] 100))
              have hv12 : u10.ownBlock ≠ some wz1.heap.size := fun e => by have := (V.out.lt _ e).2; omega
              have hl12 : xb + 1 < wz1.heap.size := X.out.lt
              have G12 := Lib.hid (at_a0 wz1 #[.string ⟨#[]⟩, .int .i64 0, .int .i64 0, .int .i64 0, .string ⟨#[]⟩, .int .i64 0] 100)
              replace X := Lib.hid (X.out.below AL.out)
              replace V := Lib.hid (V.out.below AL.out)
              clear AL
              replace xx := X.out.s
              generalize wz1.alloc (.cells #[.string ⟨#[]⟩, .int .i64 0, .int .i64 0, .int .i64 0, .string ⟨#[]⟩, .int .i64 0] 100) = wz2 at *
              generalize wz1.heap.size = b12 at *
              refine hK.out _ _ xx (fun hHeld => ?_)
              clear hK K hHeld
              try simp only [Act.put, List.setIfInBounds_toArray, List.set_cons_zero, List.set_cons_succ, List.getElem_toArray, List.getElem_cons_zero, List.getElem_cons_succ]
              refine wpAnyH_ready (rs := [11]) (by kernel_rfl) (by simp) ?_
              refine AllReadyH.cons rfl (fun K hK => ?_) AllReadyH.nil
              go_simp
              have AL := Lib.hid ((Below.refl wz2.heap.size wz2).alloc (Nat.le_refl _) (.cells #[.string ⟨#[]⟩, .int .i64 0, .int .i64 0, .int .i64 0, .int .i64 0] 103))
              have hv11 : u10.ownBlock ≠ some wz2.heap.size := fun e => by have := (V.out.lt _ e).2; omega
              have hl11 : xb + 1 < wz2.heap.size := X.out.lt
              have hne : wz2.heap.size ≠ b12 := by have := (Array.getElem?_eq_some_iff.1 G12.out).1; omega
              replace G12 := Lib.hid (block_below G12.out AL.out)
              have G11 := Lib.hid (at_a0 wz2 #[.string ⟨#[]⟩, .int .i64 0, .int .i64 0, .int .i64 0, .int .i64 0] 103)
              replace X := Lib.hid (X.out.below AL.out)
              replace V := Lib.hid (V.out.below AL.out)
              clear AL
              replace xx := X.out.s
              generalize wz2.alloc (.cells #[.string ⟨#[]⟩, .int .i64 0, .int .i64 0, .int .i64 0, .int .i64 0] 103) = wz3 at *
              generalize wz2.heap.size = b11 at *
              refine hK.out _ _ xx (fun hHeld => ?_)
              clear hK K hHeld
              try simp only [Act.put, List.setIfInBounds_toArray, List.set_cons_zero, List.set_cons_succ, List.getElem_toArray, List.getElem_cons_zero, List.getElem_cons_succ]
              obtain ⟨p0, p1, p2, p3, p4⟩ := cells5 (G11.out); obtain ⟨pf0, pf1, pf2, pf3, pf4⟩ := frees5 (G11.out)
              refine wpAnyH_ready (rs := [13]) (by kernel_rfl) (by simp) ?_
              refine AllReadyH.cons rfl (fun K hK => ?_) AllReadyH.nil
              go_simp
              obtain ⟨wy, hwy, X, V, G11, G12⟩ := Nx.leaf5 x9 X V G11 rfl G12 hl11 hv11 hne
              rw [hwy]
              clear hwy p0 p1 p2 p3 p4 pf0 pf1 pf2 pf3 pf4
              replace xx := X.out.s
              refine hK.out _ _ xx (fun hHeld => ?_)
              clear hK K hHeld
              try simp only [Act.put, List.setIfInBounds_toArray, List.set_cons_zero, List.set_cons_succ, List.getElem_toArray, List.getElem_cons_zero, List.getElem_cons_succ]
              obtain ⟨p0, p1, p2, p3, p4, p5⟩ := cells6 (G12.out); obtain ⟨pf0, pf1, pf2, pf3, pf4, pf5⟩ := frees6 (G12.out)
              refine wpAnyH_ready (rs := [14]) (by kernel_rfl) (by simp) ?_
              refine AllReadyH.cons rfl (fun K hK => ?_) AllReadyH.nil
              go_simp
              obtain ⟨wx, hwy, X, V, G11, G12⟩ := Nx.leaf6 f X V G12 rfl G11 hl12 hv12 hne
              rw [hwy]
              clear hwy p0 p1 p2 p3 p4 p5 pf0 pf1 pf2 pf3 pf4 pf5
              replace xx := X.out.s
              refine hK.out _ _ xx (fun hHeld => ?_)
              clear hK K hHeld
              try simp only [Act.put, List.setIfInBounds_toArray, List.set_cons_zero, List.set_cons_succ, List.getElem_toArray, List.getElem_cons_zero, List.getElem_cons_succ]
              refine wpAnyH_take (i := 15) (v := ?vn11) rfl (by kernel_rfl) (by kernel_rfl) (by kernel_rfl) (fun _ _ _ h => h) (Or.inl ⟨by rfl, ?hyn11⟩) xx ?rn11
              case hyn11 => (intro w hSw; (try dsimp only at hSw); go_simp; first | done | with_reducible rfl)
              try simp only [Act.put, List.setIfInBounds_toArray, List.set_cons_zero, List.set_cons_succ, List.getElem_toArray, List.getElem_cons_zero, List.getElem_cons_succ]
              refine wpAnyH_done (by kernel_rfl) ?_ _
              refine NoPanic.normal ?_
              go_wp2_with fail
              go_meet
              exact ⟨b11, b12, x9, hl11, hl12, rfl, rfl, rfl, HLK, X, V, G11, G12⟩
            refine AllReadyH.cons rfl (fun K hK => ?_) ?_
            · go_simp
              have AL := Lib.hid ((Below.refl wz0.heap.size wz0).alloc (Nat.le_refl _) (.cells #[.string ⟨#[]⟩, .int .i64 0, .int .i64 0, .int .i64 0, .int .i64 0] 103))
              have hv11 : u10.ownBlock ≠ some wz0.heap.size := fun e => by have := (V.out.lt _ e).2; omega
              have hl11 : xb + 1 < wz0.heap.size := X.out.lt
              have G11 := Lib.hid (at_a0 wz0 #[.string ⟨#[]⟩, .int .i64 0, .int .i64 0, .int .i64 0, .int .i64 0] 103)
              replace X := Lib.hid (X.out.below AL.out)
              replace V := Lib.hid (V.out.below AL.out)
              clear AL
              replace xx := X.out.s
              generalize wz0.alloc (.cells #[.string ⟨#[]⟩, .int .i64 0, .int .i64 0, .int .i64 0, .int .i64 0] 103) = wz1 at *
              generalize wz0.heap.size = b11 at *
              refine hK.out _ _ xx (fun hHeld => ?_)
              clear hK K hHeld
              try simp only [Act.put, List.setIfInBounds_toArray, List.set_cons_zero, List.set_cons_succ, List.getElem_toArray, List.getElem_cons_zero, List.getElem_cons_succ]
              refine wpAnyH_ready (rs := [6, 12]) (by kernel_rfl) (by simp) ?_
              refine AllReadyH.cons rfl (fun K hK => ?_) ?_
              · go_simp
                (go_at_call 105; (with_reducible refine (PA.out _).mono ?_); rintro e wz2 ⟨x9, hlk, rfl, hb⟩)
                have HLK := Lib.hid hlk
                clear hlk
                replace X := Lib.hid (X.out.below hb)
                replace V := Lib.hid (V.out.below hb)
                replace G11 := Lib.hid (block_below G11.out hb)
                clear hb
                replace xx := X.out.s
                refine hK.out _ _ xx (fun hHeld => ?_)
                clear hK K hHeld
                try simp only [Act.put, List.setIfInBounds_toArray, List.set_cons_zero, List.set_cons_succ, List.getElem_toArray, List.getElem_cons_zero, List.getElem_cons_succ]
                refine wpAnyH_take (i := 7) (v := ?vn12) rfl (by kernel_rfl) (by kernel_rfl) (by kernel_rfl) (fun _ _ _ h => h) (Or.inl ⟨by rfl, ?hyn12⟩) xx ?rn12
                case hyn12 => (intro w hSw; (try dsimp only at hSw); go_simp; first | done | with_reducible rfl)
                try simp only [Act.put, List.setIfInBounds_toArray, List.set_cons_zero, List.set_cons_succ, List.getElem_toArray, List.getElem_cons_zero, List.getElem_cons_succ]
                refine wpAnyH_take (i := 8) (v := ?vn13) rfl (by kernel_rfl) (by kernel_rfl) (by kernel_rfl) (fun _ _ _ h => h) (Or.inl ⟨by rfl, ?hyn13⟩) xx ?rn13
                case hyn13 => (intro w hSw; (try dsimp only at hSw); go_simp; first | done | with_reducible rfl)
                try simp only [Act.put, List.setIfInBounds_toArray, List.set_cons_zero, List.set_cons_succ, List.getElem_toArray, List.getElem_cons_zero, List.getElem_cons_succ]
                refine wpAnyH_take (i := 9) (v := ?vn14) rfl (by kernel_rfl) (by kernel_rfl) (by kernel_rfl) (fun _ _ _ h => h) (Or.inl ⟨by rfl, ?hyn14⟩) xx ?rn14
                case hyn14 => (intro w hSw; (try dsimp only at hSw); go_simp; first | done | with_reducible rfl)
                try simp only [Act.put, List.setIfInBounds_toArray, List.set_cons_zero, List.set_cons_succ, List.getElem_toArray, List.getElem_cons_zero, List.getElem_cons_succ]
                refine wpAnyH_take (i := 10) (v := ?vn15) rfl (by kernel_rfl) (by kernel_rfl) (by kernel_rfl) (fun _ _ _ h => h) (Or.inl ⟨by rfl, ?hyn15⟩) xx ?rn15
                case hyn15 => (intro w hSw; (try dsimp only at hSw); go_simp; first | done | with_reducible rfl)
                try simp only [Act.put, List.setIfInBounds_toArray, List.set_cons_zero, List.set_cons_succ, List.getElem_toArray, List.getElem_cons_zero, List.getElem_cons_succ]
                refine wpAnyH_ready (rs := [12]) (by kernel_rfl) (by simp) ?_
                refine AllReadyH.cons rfl (fun K hK => ?_) AllReadyH.nil
                go_simp
                have AL := Lib.hid ((Below.refl wz2.heap.size wz2).alloc (Nat.le_refl _) (.cells #[.string ⟨#[]⟩, .int .i64 0, .int .i64 0, .int .i64 0, .string ⟨#[]⟩, .int .i64 0] 100))
                have hv12 : u10.ownBlock ≠ some wz2.heap.size := fun e => by have := (V.out.lt _ e).2; omega
                have hl12 : xb + 1 < wz2.heap.size := X.out.lt
                have hne : b11 ≠ wz2.heap.size := by have := (Array.getElem?_eq_some_iff.1 G11.out).1; omega
                replace G11 := Lib.hid (block_below G11.out AL.out)
                have G12 := Lib.hid (at_a0 wz2 #[.string ⟨#[]⟩, .int .i64 0, .int .i64 0, .int .i64 0, .string ⟨#[]⟩, .int .i64 0] 100)
                replace X := Lib.hid (X.out.below AL.out)
                replace V := Lib.hid (V.out.below AL.out)
                clear AL
                replace xx := X.out.s
                generalize wz2.alloc (.cells #[.string ⟨#[]⟩, .int .i64 0, .int .i64 0, .int .i64 0, .string ⟨#[]⟩, .int .i64 0] 100) = wz3 at *
                generalize wz2.heap.size = b12 at *
                refine hK.out _ _ xx (fun hHeld => ?_)
                clear hK K hHeld
                try simp only [Act.put, List.setIfInBounds_toArray, List.set_cons_zero, List.set_cons_succ, List.getElem_toArray, List.getElem_cons_zero, List.getElem_cons_succ]
                obtain ⟨p0, p1, p2, p3, p4⟩ := cells5 (G11.out); obtain ⟨pf0, pf1, pf2, pf3, pf4⟩ := frees5 (G11.out)
                refine wpAnyH_ready (rs := [13]) (by kernel_rfl) (by simp) ?_
                refine AllReadyH.cons rfl (fun K hK => ?_) AllReadyH.nil
                go_simp
                obtain ⟨wy, hwy, X, V, G11, G12⟩ := Nx.leaf5 x9 X V G11 rfl G12 hl11 hv11 hne
                rw [hwy]
                clear hwy p0 p1 p2 p3 p4 pf0 pf1 pf2 pf3 pf4
                replace xx := X.out.s
                refine hK.out _ _ xx (fun hHeld => ?_)
                clear hK K hHeld
                try simp only [Act.put, List.setIfInBounds_toArray, List.set_cons_zero, List.set_cons_succ, List.getElem_toArray, List.getElem_cons_zero, List.getElem_cons_succ]
                obtain ⟨p0, p1, p2, p3, p4, p5⟩ := cells6 (G12.out); obtain ⟨pf0, pf1, pf2, pf3, pf4, pf5⟩ := frees6 (G12.out)
                refine wpAnyH_ready (rs := [14]) (by kernel_rfl) (by simp) ?_
                refine AllReadyH.cons rfl (fun K hK => ?_) AllReadyH.nil
                go_simp
                obtain ⟨wx, hwy, X, V, G11, G12⟩ := Nx.leaf6 f X V G12 rfl G11 hl12 hv12 hne
                rw [hwy]
                clear hwy p0 p1 p2 p3 p4 p5 pf0 pf1 pf2 pf3 pf4 pf5
                replace xx := X.out.s
                refine hK.out _ _ xx (fun hHeld => ?_)
                clear hK K hHeld
                try simp only [Act.put, List.setIfInBounds_toArray, List.set_cons_zero, List.set_cons_succ, List.getElem_toArray, List.getElem_cons_zero, List.getElem_cons_succ]
                refine wpAnyH_take (i := 15) (v := ?vn16) rfl (by kernel_rfl) (by kernel_rfl) (by kernel_rfl) (fun _ _ _ h => h) (Or.inl ⟨by rfl, ?hyn16⟩) xx ?rn16
                case hyn16 => (intro w hSw; (try dsimp only at hSw); go_simp; first | done | with_reducible rfl)
                try simp only [Act.put, List.setIfInBounds_toArray, List.set_cons_zero, List.set_cons_succ, List.getElem_toArray, List.getElem_cons_zero, List.getElem_cons_succ]
                refine wpAnyH_done (by kernel_rfl) ?_ _
                refine NoPanic.normal ?_
                go_wp2_with fail
                go_meet
                exact ⟨b11, b12, x9, hl11, hl12, rfl, rfl, rfl, HLK, X, V, G11, G12⟩
              refine AllReadyH.cons rfl (fun K hK => ?_) AllReadyH.nil
              go_simp
              have AL := Lib.hid ((Below.refl wz1.heap.size wz1).alloc (Nat.le_refl _) (.cells #[.string ⟨#[]⟩, .int .i64 0, .int .i64 0, .int .i64 0, .string ⟨#[]⟩, .int .i64 0] 100))
              have hv12 : u10.ownBlock ≠ some wz1.heap.size := fun e => by have := (V.out.lt _ e).2; omega
              have hl12 : xb + 1 < wz1.heap.size := X.out.lt
              have hne : b11 ≠ wz1.heap.size := by have := (Array.getElem?_eq_some_iff.1 G11.out).1; omega
              replace G11 := Lib.hid (block_below G11.out AL.out)
              have G12 := Lib.hid (at_a0 wz1 #[.string ⟨#[]⟩, .int .i64 0, .int .i64 0, .int .i64 0, .string ⟨#[]⟩, .int .i64 0] 100)
              replace X := Lib.hid (X.out.below AL.out)
              replace V := Lib.hid (V.out.below AL.out)
              clear AL
              replace xx := X.out.s
              generalize wz1.alloc (.cells #[.string ⟨#[]⟩, .int .i64 0, .int .i64 0, .int .i64 0, .string ⟨#[]⟩, .int .i64 0] 100) = wz2 at *
              generalize wz1.heap.size = b12 at *
              refine hK.out _ _ xx (fun hHeld => ?_)
              clear hK K hHeld
              try simp only [Act.put, List.setIfInBounds_toArray, List.set_cons_zero, List.set_cons_succ, List.getElem_toArray, List.getElem_cons_zero, List.getElem_cons_succ]
              refine wpAnyH_ready (rs := [6]) (by kernel_rfl) (by simp) ?_
              refine AllReadyH.cons rfl (fun K hK => ?_) AllReadyH.nil
              go_simp
              (go_at_call 105; (with_reducible refine (PA.out _).mono ?_); rintro e wz3 ⟨x9, hlk, rfl, hb⟩)
              have HLK := Lib.hid hlk
              clear hlk
              replace X := Lib.hid (X.out.below hb)
              replace V := Lib.hid (V.out.below hb)
              replace G11 := Lib.hid (block_below G11.out hb)
              replace G12 := Lib.hid (block_below G12.out hb)
              clear hb
              replace xx := X.out.s
              refine hK.out _ _ xx (fun hHeld => ?_)
              clear hK K hHeld
              try simp only [Act.put, List.setIfInBounds_toArray, List.set_cons_zero, List.set_cons_succ, List.getElem_toArray, List.getElem_cons_zero, List.getElem_cons_succ]
              refine wpAnyH_take (i := 7) (v := ?vn17) rfl (by kernel_rfl) (by kernel_rfl) (by kernel_rfl) (fun _ _ _ h => h) (Or.inl ⟨by rfl, ?hyn17⟩) xx ?rn17
              case hyn17 => (intro w hSw; (try dsimp only at hSw); go_simp; first | done | with_reducible rfl)
              try simp only [Act.put, List.setIfInBounds_toArray, List.set_cons_zero, List.set_cons_succ, List.getElem_toArray, List.getElem_cons_zero, List.getElem_cons_succ]
              refine wpAnyH_take (i := 8) (v := ?vn18) rfl (by kernel_rfl) (by kernel_rfl) (by kernel_rfl) (fun _ _ _ h => h) (Or.inl ⟨by rfl, ?hyn18⟩) xx ?rn18
              case hyn18 => (intro w hSw; (try dsimp only at hSw); go_simp; first | done | with_reducible rfl)
              try simp only [Act.put, List.setIfInBounds_toArray, List.set_cons_zero, List.set_cons_succ, List.getElem_toArray, List.getElem_cons_zero, List.getElem_cons_succ]
              refine wpAnyH_take (i := 9) (v := ?vn19) rfl (by kernel_rfl) (by kernel_rfl) (by kernel_rfl) (fun _ _ _ h => h) (Or.inl ⟨by rfl, ?hyn19⟩) xx ?rn19
              case hyn19 => (intro w hSw; (try dsimp only at hSw); go_simp; first | done | with_reducible rfl)
              try simp only [Act.put, List.setIfInBounds_toArray, List.set_cons_zero, List.set_cons_succ, List.getElem_toArray, List.getElem_cons_zero, List.getElem_cons_succ]
              refine wpAnyH_take (i := 10) (v := ?vn20) rfl (by kernel_rfl) (by kernel_rfl) (by kernel_rfl) (fun _ _ _ h => h) (Or.inl ⟨by rfl, ?hyn20⟩) xx ?rn20
              case hyn20 => (intro w hSw; (try dsimp only at hSw); go_simp; first | done | with_reducible rfl)
              try simp only [Act.put, List.setIfInBounds_toArray, List.set_cons_zero, List.set_cons_succ, List.getElem_toArray, List.getElem_cons_zero, List.getElem_cons_succ]
              obtain ⟨p0, p1, p2, p3, p4⟩ := cells5 (G11.out); obtain ⟨pf0, pf1, pf2, pf3, pf4⟩ := frees5 (G11.out)
              refine wpAnyH_ready (rs := [13]) (by kernel_rfl) (by simp) ?_
              refine AllReadyH.cons rfl (fun K hK => ?_) AllReadyH.nil
              go_simp
              obtain ⟨wy, hwy, X, V, G11, G12⟩ := Nx.leaf5 x9 X V G11 rfl G12 hl11 hv11 hne
              rw [hwy]
              clear hwy p0 p1 p2 p3 p4 pf0 pf1 pf2 pf3 pf4
              replace xx := X.out.s
              refine hK.out _ _ xx (fun hHeld => ?_)
              clear hK K hHeld
              try simp only [Act.put, List.setIfInBounds_toArray, List.set_cons_zero, List.set_cons_succ, List.getElem_toArray, List.getElem_cons_zero, List.getElem_cons_succ]
              obtain ⟨p0, p1, p2, p3, p4, p5⟩ := cells6 (G12.out); obtain ⟨pf0, pf1, pf2, pf3, pf4, pf5⟩ := frees6 (G12.out)
              refine wpAnyH_ready (rs := [14]) (by kernel_rfl) (by simp) ?_
              refine AllReadyH.cons rfl (fun K hK => ?_) AllReadyH.nil
              go_simp
              obtain ⟨wx, hwy, X, V, G11, G12⟩ := Nx.leaf6 f X V G12 rfl G11 hl12 hv12 hne
              rw [hwy]
              clear hwy p0 p1 p2 p3 p4 p5 pf0 pf1 pf2 pf3 pf4 pf5
              replace xx := X.out.s
              refine hK.out _ _ xx (fun hHeld => ?_)
              clear hK K hHeld
              try simp only [Act.put, List.setIfInBounds_toArray, List.set_cons_zero, List.set_cons_succ, List.getElem_toArray, List.getElem_cons_zero, List.getElem_cons_succ]
              refine wpAnyH_take (i := 15) (v := ?vn21) rfl (by kernel_rfl) (by kernel_rfl) (by kernel_rfl) (fun _ _ _ h => h) (Or.inl ⟨by rfl, ?hyn21⟩) xx ?rn21
              case hyn21 => (intro w hSw; (try dsimp only at hSw); go_simp; first | done | with_reducible rfl)
              try simp only [Act.put, List.setIfInBounds_toArray, List.set_cons_zero, List.set_cons_succ, List.getElem_toArray, List.getElem_cons_zero, List.getElem_cons_succ]
              refine wpAnyH_done (by kernel_rfl) ?_ _
              refine NoPanic.normal ?_
              go_wp2_with fail
              go_meet
              exact ⟨b11, b12, x9, hl11, hl12, rfl, rfl, rfl, HLK, X, V, G11, G12⟩
            refine AllReadyH.cons rfl (fun K hK => ?_) AllReadyH.nil
            go_simp
            have AL := Lib.hid ((Below.refl wz0.heap.size wz0).alloc (Nat.le_refl _) (.cells #[.string ⟨#[]⟩, .int .i64 0, .int .i64 0, .int .i64 0, .string ⟨#[]⟩, .int .i64 0] 100))
            have hv12 : u10.ownBlock ≠ some wz0.heap.size := fun e => by have := (V.out.lt _ e).2; omega
            have hl12 : xb + 1 < wz0.heap.size := X.out.lt
            have G12 := Lib.hid (at_a0 wz0 #[.string ⟨#[]⟩, .int .i64 0, .int .i64 0, .int .i64 0, .string ⟨#[]⟩, .int .i64 0] 100)
            replace X := Lib.hid (X.out.below AL.out)
            replace V := Lib.hid (V.out.below AL.out)
            clear AL
            replace xx := X.out.s
            generalize wz0.alloc (.cells #[.string ⟨#[]⟩, .int .i64 0, .int .i64 0, .int .i64 0, .string ⟨#[]⟩, .int .i64 0] 100) = wz1 at *
            generalize wz0.heap.size = b12 at *
            refine hK.out _ _ xx (fun hHeld => ?_)
            clear hK K hHeld
            try simp only [Act.put, List.setIfInBounds_toArray, List.set_cons_zero, List.set_cons_succ, List.getElem_toArray, List.getElem_cons_zero, List.getElem_cons_succ]
            refine wpAnyH_ready (rs := [6, 11]) (by kernel_rfl) (by simp) ?_
            refine AllReadyH.cons rfl (fun K hK => ?_) ?_
            · go_simp
              (go_at_call 105; (with_reducible refine (PA.out _).mono ?_); rintro e wz2 ⟨x9, hlk, rfl, hb⟩)
              have HLK := Lib.hid hlk
              clear hlk
              replace X := Lib.hid (X.out.below hb)
              replace V := Lib.hid (V.out.below hb)
              replace G12 := Lib.hid (block_below G12.out hb)
              clear hb
              replace xx := X.out.s
              refine hK.out _ _ xx (fun hHeld => ?_)
              clear hK K hHeld
              try simp only [Act.put, List.setIfInBounds_toArray, List.set_cons_zero, List.set_cons_succ, List.getElem_toArray, List.getElem_cons_zero, List.getElem_cons_succ]
              refine wpAnyH_take (i := 7) (v := ?vn22) rfl (by kernel_rfl) (by kernel_rfl) (by kernel_rfl) (fun _ _ _ h => h) (Or.inl ⟨by rfl, ?hyn22⟩) xx ?rn22
              case hyn22 => (intro w hSw; (try dsimp only at hSw); go_simp; first | done | with_reducible rfl)
              try simp only [Act.put, List.setIfInBounds_toArray, List.set_cons_zero, List.set_cons_succ, List.getElem_toArray, List.getElem_cons_zero, List.getElem_cons_succ]
              refine wpAnyH_take (i := 8) (v := ?vn23) rfl (by kernel_rfl) (by kernel_rfl) (by kernel_rfl) (fun _ _ _ h => h) (Or.inl ⟨by rfl, ?hyn23⟩) xx ?rn23
              case hyn23 => (intro w hSw; (try dsimp only at hSw); go_simp; first | done | with_reducible rfl)
              try simp only [Act.put, List.setIfInBounds_toArray, List.set_cons_zero, List.set_cons_succ, List.getElem_toArray, List.getElem_cons_zero, List.getElem_cons_succ]
              refine wpAnyH_take (i := 9) (v := ?vn24) rfl (by kernel_rfl) (by kernel_rfl) (by kernel_rfl) (fun _ _ _ h => h) (Or.inl ⟨by rfl, ?hyn24⟩) xx ?rn24
              case hyn24 => (intro w hSw; (try dsimp only at hSw); go_simp; first | done | with_reducible rfl)
              try simp only [Act.put, List.setIfInBounds_toArray, List.set_cons_zero, List.set_cons_succ, List.getElem_toArray, List.getElem_cons_zero, List.getElem_cons_succ]
              refine wpAnyH_take (i := 10) (v := ?vn25) rfl (by kernel_rfl) (by kernel_rfl) (by kernel_rfl) (fun _ _ _ h => h) (Or.inl ⟨by rfl, ?hyn25⟩) xx ?rn25
              case hyn25 => (intro w hSw; (try dsimp only at hSw); go_simp; first | done | with_reducible rfl)
              try simp only [Act.put, List.setIfInBounds_toArray, List.set_cons_zero, List.set_cons_succ, List.getElem_toArray, List.getElem_cons_zero, List.getElem_cons_succ]
              refine wpAnyH_ready (rs := [11]) (by kernel_rfl) (by simp) ?_
              refine AllReadyH.cons rfl (fun K hK => ?_) AllReadyH.nil
              go_simp
              have AL := Lib.hid ((Below.refl wz2.heap.size wz2).alloc (Nat.le_refl _) (.cells #[.string ⟨#[]⟩, .int .i64 0, .int .i64 0, .int .i64 0, .int .i64 0] 103))
              have hv11 : u10.ownBlock ≠ some wz2.heap.size := fun e => by have := (V.out.lt _ e).2; omega
              have hl11 : xb + 1 < wz2.heap.size := X.out.lt
              have hne : wz2.heap.size ≠ b12 := by have := (Array.getElem?_eq_some_iff.1 G12.out).1; omega
              replace G12 := Lib.hid (block_below G12.out AL.out)
              have G11 := Lib.hid (at_a0 wz2 #[.string ⟨#[]⟩, .int .i64 0, .int .i64 0, .int .i64 0, .int .i64 0] 103)
              replace X := Lib.hid (X.out.below AL.out)
              replace V := Lib.hid (V.out.below AL.out)
              clear AL
              replace xx := X.out.s
              generalize wz2.alloc (.cells #[.string ⟨#[]⟩, .int .i64 0, .int .i64 0, .int .i64 0, .int .i64 0] 103) = wz3 at *
              generalize wz2.heap.size = b11 at *
              refine hK.out _ _ xx (fun hHeld => ?_)
              clear hK K hHeld
              try simp only [Act.put, List.setIfInBounds_toArray, List.set_cons_zero, List.set_cons_succ, List.getElem_toArray, List.getElem_cons_zero, List.getElem_cons_succ]
              obtain ⟨p0, p1, p2, p3, p4⟩ := cells5 (G11.out); obtain ⟨pf0, pf1, pf2, pf3, pf4⟩ := frees5 (G11.out)
              refine wpAnyH_ready (rs := [13]) (by kernel_rfl) (by simp) ?_
              refine AllReadyH.cons rfl (fun K hK => ?_) AllReadyH.nil
              go_simp
              obtain ⟨wy, hwy, X, V, G11, G12⟩ := Nx.leaf5 x9 X V G11 rfl G12 hl11 hv11 hne
              rw [hwy]
              clear hwy p0 p1 p2 p3 p4 pf0 pf1 pf2 pf3 pf4
              replace xx := X.out.s
              refine hK.out _ _ xx (fun hHeld => ?_)
              clear hK K hHeld
              try simp only [Act.put, List.setIfInBounds_toArray, List.set_cons_zero, List.set_cons_succ, List.getElem_toArray, List.getElem_cons_zero, List.getElem_cons_succ]
              obtain ⟨p0, p1, p2, p3, p4, p5⟩ := cells6 (G12.out); obtain ⟨pf0, pf1, pf2, pf3, pf4, pf5⟩ := frees6 (G12.out)
              refine wpAnyH_ready (rs := [14]) (by kernel_rfl) (by simp) ?_
              refine AllReadyH.cons rfl (fun K hK => ?_) AllReadyH.nil
              go_simp
              obtain ⟨wx, hwy, X, V, G11, G12⟩ := Nx.leaf6 f X V G12 rfl G11 hl12 hv12 hne
              rw [hwy]
              clear hwy p0 p1 p2 p3 p4 p5 pf0 pf1 pf2 pf3 pf4 pf5
              replace xx := X.out.s
              refine hK.out _ _ xx (fun hHeld => ?_)
              clear hK K hHeld
              try simp only [Act.put, List.setIfInBounds_toArray, List.set_cons_zero, List.set_cons_succ, List.getElem_toArray, List.getElem_cons_zero, List.getElem_cons_succ]
              refine wpAnyH_take (i := 15) (v := ?vn26) rfl (by kernel_rfl) (by kernel_rfl) (by kernel_rfl) (fun _ _ _ h => h) (Or.inl ⟨by rfl, ?hyn26⟩) xx ?rn26
              case hyn26 => (intro w hSw; (try dsimp only at hSw); go_simp; first | done | with_reducible rfl)
              try simp only [Act.put, List.setIfInBounds_toArray, List.set_cons_zero, List.set_cons_succ, List.getElem_toArray, List.getElem_cons_zero, List.getElem_cons_succ]
              refine wpAnyH_done (by kernel_rfl) ?_ _
              refine NoPanic.normal ?_
              go_wp2_with fail
              go_meet
              exact ⟨b11, b12, x9, hl11, hl12, rfl, rfl, rfl, HLK, X, V, G11, G12⟩
            refine AllReadyH.cons rfl (fun K hK => ?_) AllReadyH.nil
            go_simp
            have AL := Lib.hid ((Below.refl wz1.heap.size wz1).alloc (Nat.le_refl _) (.cells #[.string ⟨#[]⟩, .int .i64 0, .int .i64 0, .int .i64 0, .int .i64 0] 103))
            have hv11 : u10.ownBlock ≠ some wz1.heap.size := fun e => by have := (V.out.lt _ e).2; omega
            have hl11 : xb + 1 < wz1.heap.size := X.out.lt
            have hne : wz1.heap.size ≠ b12 := by have := (Array.getElem?_eq_some_iff.1 G12.out).1; omega
            replace G12 := Lib.hid (block_below G12.out AL.out)
            have G11 := Lib.hid (at_a0 wz1 #[.string ⟨#[]⟩, .int .i64 0, .int .i64 0, .int .i64 0, .int .i64 0] 103)
            replace X := Lib.hid (X.out.below AL.out)
            replace V := Lib.hid (V.out.below AL.out)
            clear AL
            replace xx := X.out.s
            generalize wz1.alloc (.cells #[.string ⟨#[]⟩, .int .i64 0, .int .i64 0, .int .i64 0, .int .i64 0] 103) = wz2 at *
            generalize wz1.heap.size = b11 at *
            refine hK.out _ _ xx (fun hHeld => ?_)
            clear hK K hHeld
            try simp only [Act.put, List.setIfInBounds_toArray, List.set_cons_zero, List.set_cons_succ, List.getElem_toArray, List.getElem_cons_zero, List.getElem_cons_succ]
            refine wpAnyH_ready (rs := [6]) (by kernel_rfl) (by simp) ?_
            refine AllReadyH.cons rfl (fun K hK => ?_) AllReadyH.nil
            go_simp
            (go_at_call 105; (with_reducible refine (PA.out _).mono ?_); rintro e wz3 ⟨x9, hlk, rfl, hb⟩)
            have HLK := Lib.hid hlk
            clear hlk
            replace X := Lib.hid (X.out.below hb)
            replace V := Lib.hid (V.out.below hb)
            replace G11 := Lib.hid (block_below G11.out hb)
            replace G12 := Lib.hid (block_below G12.out hb)
            clear hb
            replace xx := X.out.s
            refine hK.out _ _ xx (fun hHeld => ?_)
            clear hK K hHeld
            try simp only [Act.put, List.setIfInBounds_toArray, List.set_cons_zero, List.set_cons_succ, List.getElem_toArray, List.getElem_cons_zero, List.getElem_cons_succ]
            refine wpAnyH_take (i := 7) (v := ?vn27) rfl (by kernel_rfl) (by kernel_rfl) (by kernel_rfl) (fun _ _ _ h => h) (Or.inl ⟨by rfl, ?hyn27⟩) xx ?rn27
            case hyn27 => (intro w hSw; (try dsimp only at hSw); go_simp; first | done | with_reducible rfl)
            try simp only [Act.put, List.setIfInBounds_toArray, List.set_cons_zero, List.set_cons_succ, List.getElem_toArray, List.getElem_cons_zero, List.getElem_cons_succ]
            refine wpAnyH_take (i := 8) (v := ?vn28) rfl (by kernel_rfl) (by kernel_rfl) (by kernel_rfl) (fun _ _ _ h => h) (Or.inl ⟨by rfl, ?hyn28⟩) xx ?rn28
            case hyn28 => (intro w hSw; (try dsimp only at hSw); go_simp; first | done | with_reducible rfl)
            try simp only [Act.put, List.setIfInBounds_toArray, List.set_cons_zero, List.set_cons_succ, List.getElem_toArray, List.getElem_cons_zero, List.getElem_cons_succ]
            refine wpAnyH_take (i := 9) (v := ?vn29) rfl (by kernel_rfl) (by kernel_rfl) (by kernel_rfl) (fun _ _ _ h => h) (Or.inl ⟨by rfl, ?hyn29⟩) xx ?rn29
            case hyn29 => (intro w hSw; (try dsimp only at hSw); go_simp; first | done | with_reducible rfl)
            try simp only [Act.put, List.setIfInBounds_toArray, List.set_cons_zero, List.set_cons_succ, List.getElem_toArray, List.getElem_cons_zero, List.getElem_cons_succ]
            refine wpAnyH_take (i := 10) (v := ?vn30) rfl (by kernel_rfl) (by kernel_rfl) (by kernel_rfl) (fun _ _ _ h => h) (Or.inl ⟨by rfl, ?hyn30⟩) xx ?rn30
            case hyn30 => (intro w hSw; (try dsimp only at hSw); go_simp; first | done | with_reducible rfl)
            try simp only [Act.put, List.setIfInBounds_toArray, List.set_cons_zero, List.set_cons_succ, List.getElem_toArray, List.getElem_cons_zero, List.getElem_cons_succ]
            obtain ⟨p0, p1, p2, p3, p4⟩ := cells5 (G11.out); obtain ⟨pf0, pf1, pf2, pf3, pf4⟩ := frees5 (G11.out)
            refine wpAnyH_ready (rs := [13]) (by kernel_rfl) (by simp) ?_
            refine AllReadyH.cons rfl (fun K hK => ?_) AllReadyH.nil
            go_simp
            obtain ⟨wy, hwy, X, V, G11, G12⟩ := Nx.leaf5 x9 X V G11 rfl G12 hl11 hv11 hne
            rw [hwy]
            clear hwy p0 p1 p2 p3 p4 pf0 pf1 pf2 pf3 pf4
            replace xx := X.out.s
            refine hK.out _ _ xx (fun hHeld => ?_)
            clear hK K hHeld
            try simp only [Act.put, List.setIfInBounds_toArray, List.set_cons_zero, List.set_cons_succ, List.getElem_toArray, List.getElem_cons_zero, List.getElem_cons_succ]
            obtain ⟨p0, p1, p2, p3, p4, p5⟩ := cells6 (G12.out); obtain ⟨pf0, pf1, pf2, pf3, pf4, pf5⟩ := frees6 (G12.out)
            refine wpAnyH_ready (rs := [14]) (by kernel_rfl) (by simp) ?_
            refine AllReadyH.cons rfl (fun K hK => ?_) AllReadyH.nil
            go_simp
            obtain ⟨wx, hwy, X, V, G11, G12⟩ := Nx.leaf6 f X V G12 rfl G11 hl12 hv12 hne
            rw [hwy]
            clear hwy p0 p1 p2 p3 p4 p5 pf0 pf1 pf2 pf3 pf4 pf5
            replace xx := X.out.s
            refine hK.out _ _ xx (fun hHeld => ?_)
            clear hK K hHeld
            try simp only [Act.put, List.setIfInBounds_toArray, List.set_cons_zero, List.set_cons_succ, List.getElem_toArray, List.getElem_cons_zero, List.getElem_cons_succ]
            refine wpAnyH_take (i := 15) (v := ?vn31) rfl (by kernel_rfl) (by kernel_rfl) (by kernel_rfl) (fun _ _ _ h => h) (Or.inl ⟨by rfl, ?hyn31⟩) xx ?rn31
            case hyn31 => (intro w hSw; (try dsimp only at hSw); go_simp; first | done | with_reducible rfl)
            try simp only [Act.put, List.setIfInBounds_toArray, List.set_cons_zero, List.set_cons_succ, List.getElem_toArray, List.getElem_cons_zero, List.getElem_cons_succ]
            refine wpAnyH_done (by kernel_rfl) ?_ _
            refine NoPanic.normal ?_
            go_wp2_with fail
            go_meet
            exact ⟨b11, b12, x9, hl11, hl12, rfl, rfl, rfl, HLK, X, V, G11, G12⟩
          refine AllReadyH.cons rfl (fun K hK => ?_) ?_
          · go_simp
            have AL := Lib.hid ((Below.refl wz0.heap.size wz0).alloc (Nat.le_refl _) (.cells #[.string ⟨#[]⟩, .int .i64 0, .int .i64 0, .int .i64 0, .int .i64 0] 103))
            have hv11 : u10.ownBlock ≠ some wz0.heap.size := fun e => by have := (V.out.lt _ e).2; omega
            have hl11 : xb + 1 < wz0.heap.size := X.out.lt
            have G11 := Lib.hid (at_a0 wz0 #[.string ⟨#[]⟩, .int .i64 0, .int .i64 0, .int .i64 0, .int .i64 0] 103)
            replace X := Lib.hid (X.out.below AL.out)
            replace V := Lib.hid (V.out.below AL.out)
            clear AL
            replace xx := X.out.s
            generalize wz0.alloc (.cells #[.string ⟨#[]⟩, .int .i64 0, .int .i64 0, .int .i64 0, .int .i64 0] 103) = wz1 at *
            generalize wz0.heap.size = b11 at *
            refine hK.out _ _ xx (fun hHeld => ?_)
            clear hK K hHeld
            try simp only [Act.put, List.setIfInBounds_toArray, List.set_cons_zero, List.set_cons_succ, List.getElem_toArray, List.getElem_cons_zero, List.getElem_cons_succ]
            refine wpAnyH_ready (rs := [5, 12]) (by kernel_rfl) (by simp) ?_
            refine AllReadyH.cons rfl (fun K hK => ?_) ?_
            · go_simp
              (go_at_call 28; refine (BT.out _).mono ?_; rintro e wx ⟨rfl, rfl⟩)
              refine hK.out _ _ xx (fun hHeld => ?_)
              clear hK K hHeld
              try simp only [Act.put, List.setIfInBounds_toArray, List.set_cons_zero, List.set_cons_succ, List.getElem_toArray, List.getElem_cons_zero, List.getElem_cons_succ]
              refine wpAnyH_ready (rs := [6, 12]) (by kernel_rfl) (by simp) ?_
              refine AllReadyH.cons rfl (fun K hK => ?_) ?_
              · go_simp
                (go_at_call 105; (with_reducible refine (PA.out _).mono ?_); rintro e wz2 ⟨x9, hlk, rfl, hb⟩)
                have HLK := Lib.hid hlk
                clear hlk
                replace X := Lib.hid (X.out.below hb)
                replace V := Lib.hid (V.out.below hb)
                replace G11 := Lib.hid (block_below G11.out hb)
                clear hb
                replace xx := X.out.s
                refine hK.out _ _ xx (fun hHeld => ?_)
                clear hK K hHeld
                try simp only [Act.put, List.setIfInBounds_toArray, List.set_cons_zero, List.set_cons_succ, List.getElem_toArray, List.getElem_cons_zero, List.getElem_cons_succ]
                refine wpAnyH_take (i := 7) (v := ?vn32) rfl (by kernel_rfl) (by kernel_rfl) (by kernel_rfl) (fun _ _ _ h => h) (Or.inl ⟨by rfl, ?hyn32⟩) xx ?rn32
                case hyn32 => (intro w hSw; (try dsimp only at hSw); go_simp; first | done | with_reducible rfl)
                try simp only [Act.put, List.setIfInBounds_toArray, List.set_cons_zero, List.set_cons_succ, List.getElem_toArray, List.getElem_cons_zero, List.getElem_cons_succ]
                refine wpAnyH_take (i := 8) (v := ?vn33) rfl (by kernel_rfl) (by kernel_rfl) (by kernel_rfl) (fun _ _ _ h => h) (Or.inl ⟨by rfl, ?hyn33⟩) xx ?rn33
                case hyn33 => (intro w hSw; (try dsimp only at hSw); go_simp; first | done | with_reducible rfl)
                try simp only [Act.put, List.setIfInBounds_toArray, List.set_cons_zero, List.set_cons_succ, List.getElem_toArray, List.getElem_cons_zero, List.getElem_cons_succ]
                refine wpAnyH_take (i := 9) (v := ?vn34) rfl (by kernel_rfl) (by kernel_rfl) (by kernel_rfl) (fun _ _ _ h => h) (Or.inl ⟨by rfl, ?hyn34⟩) xx ?rn34
                case hyn34 => (intro w hSw; (try dsimp only at hSw); go_simp; first | done | with_reducible rfl)
                try simp only [Act.put, List.setIfInBounds_toArray, List.set_cons_zero, List.set_cons_succ, List.getElem_toArray, List.getElem_cons_zero, List.getElem_cons_succ]
                refine wpAnyH_take (i := 10) (v := ?vn35) rfl (by kernel_rfl) (by kernel_rfl) (by kernel_rfl) (fun _ _ _ h => h) (Or.inl ⟨by rfl, ?hyn35⟩) xx ?rn35
                case hyn35 => (intro w hSw; (try dsimp only at hSw); go_simp; first | done | with_reducible rfl)
                try simp only [Act.put, List.setIfInBounds_toArray, List.set_cons_zero, List.set_cons_succ, List.getElem_toArray, List.getElem_cons_zero, List.getElem_cons_succ]
                refine wpAnyH_ready (rs := [12]) (by kernel_rfl) (by simp) ?_
                refine AllReadyH.cons rfl (fun K hK => ?_) AllReadyH.nil
                go_simp
                have AL := Lib.hid ((Below.refl wz2.heap.size wz2).alloc (Nat.le_refl _) (.cells #[.string ⟨#[]⟩, .int .i64 0, .int .i64 0, .int .i64 0, .string ⟨#[]⟩, .int .i64 0] 100))
                have hv12 : u10.ownBlock ≠ some wz2.heap.size := fun e => by have := (V.out.lt _ e).2; omega
                have hl12 : xb + 1 < wz2.heap.size := X.out.lt
                have hne : b11 ≠ wz2.heap.size := by have := (Array.getElem?_eq_some_iff.1 G11.out).1; omega
                replace G11 := Lib.hid (block_below G11.out AL.out)
                have G12 := Lib.hid (at_a0 wz2 #[.string ⟨#[]⟩, .int .i64 0, .int .i64 0, .int .i64 0, .string ⟨#[]⟩, .int .i64 0] 100)
                replace X := Lib.hid (X.out.below AL.out)
                replace V := Lib.hid (V.out.below AL.out)
                clear AL
                replace xx := X.out.s
                generalize wz2.alloc (.cells #[.string ⟨#[]⟩, .int .i64 0, .int .i64 0, .int .i64 0, .string ⟨#[]⟩, .int .i64 0] 100) = wz3 at *
                generalize wz2.heap.size = b12 at *
                refine hK.out _ _ xx (fun hHeld => ?_)
                clear hK K hHeld
                try simp only [Act.put, List.setIfInBounds_toArray, List.set_cons_zero, List.set_cons_succ, List.getElem_toArray, List.getElem_cons_zero, List.getElem_cons_succ]
                obtain ⟨p0, p1, p2, p3, p4⟩ := cells5 (G11.out); obtain ⟨pf0, pf1, pf2, pf3, pf4⟩ := frees5 (G11.out)
                refine wpAnyH_ready (rs := [13]) (by kernel_rfl) (by simp) ?_
                refine AllReadyH.cons rfl (fun K hK => ?_) AllReadyH.nil
                go_simp
                obtain ⟨wy, hwy, X, V, G11, G12⟩ := Nx.leaf5 x9 X V G11 rfl G12 hl11 hv11 hne
                rw [hwy]
                clear hwy p0 p1 p2 p3 p4 pf0 pf1 pf2 pf3 pf4
                replace xx := X.out.s
                refine hK.out _ _ xx (fun hHeld => ?_)
                clear hK K hHeld
                try simp only [Act.put, List.setIfInBounds_toArray, List.set_cons_zero, List.set_cons_succ, List.getElem_toArray, List.getElem_cons_zero, List.getElem_cons_succ]
                obtain ⟨p0, p1, p2, p3, p4, p5⟩ := cells6 (G12.out); obtain ⟨pf0, pf1, pf2, pf3, pf4, pf5⟩ := frees6 (G12.out)
                refine wpAnyH_ready (rs := [14]) (by kernel_rfl) (by simp) ?_
                refine AllReadyH.cons rfl (fun K hK => ?_) AllReadyH.nil
                go_simp
                obtain ⟨wx, hwy, X, V, G11, G12⟩ := Nx.leaf6 f X V G12 rfl G11 hl12 hv12 hne
                rw [hwy]
                clear hwy p0 p1 p2 p3 p4 p5 pf0 pf1 pf2 pf3 pf4 pf5
                replace xx := X.out.s
                refine hK.out _ _ xx (fun hHeld => ?_)
                clear hK K hHeld
                try simp only [Act.put, List.setIfInBounds_toArray, List.set_cons_zero, List.set_cons_succ, List.getElem_toArray, List.getElem_cons_zero, List.getElem_cons_succ]
                refine wpAnyH_take (i := 15) (v := ?vn36) rfl (by kernel_rfl) (by kernel_rfl) (by kernel_rfl) (fun _ _ _ h => h) (Or.inl ⟨by rfl, ?hyn36⟩) xx ?rn36
                case hyn36 => (intro w hSw; (try dsimp only at hSw); go_simp; first | done | with_reducible rfl)
                try simp only [Act.put, List.setIfInBounds_toArray, List.set_cons_zero, List.set_cons_succ, List.getElem_toArray, List.getElem_cons_zero, List.getElem_cons_succ]
                refine wpAnyH_done (by kernel_rfl) ?_ _
                refine NoPanic.normal ?_
                go_wp2_with fail
                go_meet
                exact ⟨b11, b12, x9, hl11, hl12, rfl, rfl, rfl, HLK, X, V, G11, G12⟩
              refine AllReadyH.cons rfl (fun K hK => ?_) AllReadyH.nil
              go_simp
              have AL := Lib.hid ((Below.refl wz1.heap.size wz1).alloc (Nat.le_refl _) (.cells #[.string ⟨#[]⟩, .int .i64 0, .int .i64 0, .int .i64 0, .string ⟨#[]⟩, .int .i64 0] 100))
              have hv12 : u10.ownBlock ≠ some wz1.heap.size := fun e => by have := (V.out.lt _ e).2; omega
              have hl12 : xb + 1 < wz1.heap.size := X.out.lt
              have hne : b11 ≠ wz1.heap.size := by have := (Array.getElem?_eq_some_iff.1 G11.out).1; omega
              replace G11 := Lib.hid (block_below G11.out AL.out)
              have G12 := Lib.hid (at_a0 wz1 #[.string ⟨#[]⟩, .int .i64 0, .int .i64 0, .int .i64 0, .string ⟨#[]⟩, .int .i64 0] 100)
              replace X := Lib.hid (X.out.below AL.out)
              replace V := Lib.hid (V.out.below AL.out)
              clear AL
              replace xx := X.out.s
              generalize wz1.alloc (.cells #[.string ⟨#[]⟩, .int .i64 0, .int .i64 0, .int .i64 0, .string ⟨#[]⟩, .int .i64 0] 100) = wz2 at *
              generalize wz1.heap.size = b12 at *
              refine hK.out _ _ xx (fun hHeld => ?_)
              clear hK K hHeld
              try simp only [Act.put, List.setIfInBounds_toArray, List.set_cons_zero, List.set_cons_succ, List.getElem_toArray, List.getElem_cons_zero, List.getElem_cons_succ]
              refine wpAnyH_ready (rs := [6]) (by kernel_rfl) (by simp) ?_
              refine AllReadyH.cons rfl (fun K hK => ?_) AllReadyH.nil
              go_simp
              (go_at_call 105; (with_reducible refine (PA.out _).mono ?_); rintro e wz3 ⟨x9, hlk, rfl, hb⟩)
              have HLK := Lib.hid hlk
              clear hlk
              replace X := Lib.hid (X.out.below hb)
              replace V := Lib.hid (V.out.below hb)
              replace G11 := Lib.hid (block_below G11.out hb)
              replace G12 := Lib.hid (block_below G12.out hb)
              clear hb
              replace xx := X.out.s
              refine hK.out _ _ xx (fun hHeld => ?_)
              clear hK K hHeld
              try simp only [Act.put, List.setIfInBounds_toArray, List.set_cons_zero, List.set_cons_succ, List.getElem_toArray, List.getElem_cons_zero, List.getElem_cons_succ]
              refine wpAnyH_take (i := 7) (v := ?vn37) rfl (by kernel_rfl) (by kernel_rfl) (by kernel_rfl) (fun _ _ _ h => h) (Or.inl ⟨by rfl, ?hyn37⟩) xx ?rn37
              case hyn37 => (intro w hSw; (try dsimp only at hSw); go_simp; first | done | with_reducible rfl)
              try simp only [Act.put, List.setIfInBounds_toArray, List.set_cons_zero, List.set_cons_succ, List.getElem_toArray, List.getElem_cons_zero, List.getElem_cons_succ]
              refine wpAnyH_take (i := 8) (v := ?vn38) rfl (by kernel_rfl) (by kernel_rfl) (by kernel_rfl) (fun _ _ _ h => h) (Or.inl ⟨by rfl, ?hyn38⟩) xx ?rn38
              case hyn38 => (intro w hSw; (try dsimp only at hSw); go_simp; first | done | with_reducible rfl)
              try simp only [Act.put, List.setIfInBounds_toArray, List.set_cons_zero, List.set_cons_succ, List.getElem_toArray, List.getElem_cons_zero, List.getElem_cons_succ]
              refine wpAnyH_take (i := 9) (v := ?vn39) rfl (by kernel_rfl) (by kernel_rfl) (by kernel_rfl) (fun _ _ _ h => h) (Or.inl ⟨by rfl, ?hyn39⟩) xx ?rn39
              case hyn39 => (intro w hSw; (try dsimp only at hSw); go_simp; first | done | with_reducible rfl)
              try simp only [Act.put, List.setIfInBounds_toArray, List.set_cons_zero, List.set_cons_succ, List.getElem_toArray, List.getElem_cons_zero, List.getElem_cons_succ]
              refine wpAnyH_take (i := 10) (v := ?vn40) rfl (by kernel_rfl) (by kernel_rfl) (by kernel_rfl) (fun _ _ _ h => h) (Or.inl ⟨by rfl, ?hyn40⟩) xx ?rn40
              case hyn40 => (intro w hSw; (try dsimp only at hSw); go_simp; first | done | with_reducible rfl)
              try simp only [Act.put, List.setIfInBounds_toArray, List.set_cons_zero, List.set_cons_succ, List.getElem_toArray, List.getElem_cons_zero, List.getElem_cons_succ]
              obtain ⟨p0, p1, p2, p3, p4⟩ := cells5 (G11.out); obtain ⟨pf0, pf1, pf2, pf3, pf4⟩ := frees5 (G11.out)
              refine wpAnyH_ready (rs := [13]) (by kernel_rfl) (by simp) ?_
              refine AllReadyH.cons rfl (fun K hK => ?_) AllReadyH.nil
              go_simp
              obtain ⟨wy, hwy, X, V, G11, G12⟩ := Nx.leaf5 x9 X V G11 rfl G12 hl11 hv11 hne
              rw [hwy]
              clear hwy p0 p1 p2 p3 p4 pf0 pf1 pf2 pf3 pf4
              replace xx := X.out.s
              refine hK.out _ _ xx (fun hHeld => ?_)
              clear hK K hHeld
              try simp only [Act.put, List.setIfInBounds_toArray, List.set_cons_zero, List.set_cons_succ, List.getElem_toArray, List.getElem_cons_zero, List.getElem_cons_succ]
              obtain ⟨p0, p1, p2, p3, p4, p5⟩ := cells6 (G12.out); obtain ⟨pf0, pf1, pf2, pf3, pf4, pf5⟩ := frees6 (G12.out)
              refine wpAnyH_ready (rs := [14]) (by kernel_rfl) (by simp) ?_
              refine AllReadyH.cons rfl (fun K hK => ?_) AllReadyH.nil
              go_simp
              obtain ⟨wx, hwy, X, V, G11, G12⟩ := Nx.leaf6 f X V G12 rfl G11 hl12 hv12 hne
              rw [hwy]
              clear hwy p0 p1 p2 p3 p4 p5 pf0 pf1 pf2 pf3 pf4 pf5
              replace xx := X.out.s
              refine hK.out _ _ xx (fun hHeld => ?_)
              clear hK K hHeld
              try simp only [Act.put, List.setIfInBounds_toArray, List.set_cons_zero, List.set_cons_succ, List.getElem_toArray, List.getElem_cons_zero, List.getElem_cons_succ]
              refine wpAnyH_take (i := 15) (v := ?vn41) rfl (by kernel_rfl) (by kernel_rfl) (by kernel_rfl) (fun _ _ _ h => h) (Or.inl ⟨by rfl, ?hyn41⟩) xx ?rn41
              case hyn41 => (intro w hSw; (try dsimp only at hSw); go_simp; first | done | with_reducible rfl)
              try simp only [Act.put, List.setIfInBounds_toArray, List.set_cons_zero, List.set_cons_succ, List.getElem_toArray, List.getElem_cons_zero, List.getElem_cons_succ]
              refine wpAnyH_done (by kernel_rfl) ?_ _
              refine NoPanic.normal ?_
              go_wp2_with fail
              go_meet
              exact ⟨b11, b12, x9, hl11, hl12, rfl, rfl, rfl, HLK, X, V, G11, G12⟩
            refine AllReadyH.cons rfl (fun K hK => ?_) AllReadyH.nil
            go_simp
            have AL := Lib.hid ((Below.refl wz1.heap.size wz1).alloc (Nat.le_refl _) (.cells #[.string ⟨#[]⟩, .int .i64 0, .int .i64 0, .int .i64 0, .string ⟨#[]⟩, .int .i64 0] 100))
            have hv12 : u10.ownBlock ≠ some wz1.heap.size := fun e => by have := (V.out.lt _ e).2; omega
            have hl12 : xb + 1 < wz1.heap.size := X.out.lt
            have hne : b11 ≠ wz1.heap.size := by have := (Array.getElem?_eq_some_iff.1 G11.out).1; omega
            replace G11 := Lib.hid (block_below G11.out AL.out)
            have G12 := Lib.hid (at_a0 wz1 #[.string ⟨#[]⟩, .int .i64 0, .int .i64 0, .int .i64 0, .string ⟨#[]⟩, .int .i64 0] 100)
            replace X := Lib.hid (X.out.below AL.out)
            replace V := Lib.hid (V.out.below AL.out)
            clear AL
            replace xx := X.out.s
            generalize wz1.alloc (.cells #[.string ⟨#[]⟩, .int .i64 0, .int .i64 0, .int .i64 0, .string ⟨#[]⟩, .int .i64 0] 100) = wz2 at *
            generalize wz1.heap.size = b12 at *
            refine hK.out _ _ xx (fun hHeld => ?_)
            clear hK K hHeld
            try simp only [Act.put, List.setIfInBounds_toArray, List.set_cons_zero, List.set_cons_succ, List.getElem_toArray, List.getElem_cons_zero, List.getElem_cons_succ]
            refine wpAnyH_ready (rs := [5]) (by kernel_rfl) (by simp) ?_
            refine AllReadyH.cons rfl (fun K hK => ?_) AllReadyH.nil
            go_simp
            (go_at_call 28; refine (BT.out _).mono ?_; rintro e wx ⟨rfl, rfl⟩)
            refine hK.out _ _ xx (fun hHeld => ?_)
            clear hK K hHeld
            try simp only [Act.put, List.setIfInBounds_toArray, List.set_cons_zero, List.set_cons_succ, List.getElem_toArray, List.getElem_cons_zero, List.getElem_cons_succ]
            refine wpAnyH_ready (rs := [6]) (by kernel_rfl) (by simp) ?_
            refine AllReadyH.cons rfl (fun K hK => ?_) AllReadyH.nil
            go_simp
            (go_at_call 105; (with_reducible refine (PA.out _).mono ?_); rintro e wz3 ⟨x9, hlk, rfl, hb⟩)
            have HLK := Lib.hid hlk
            clear hlk
            replace X := Lib.hid (X.out.below hb)
            replace V := Lib.hid (V.out.below hb)
            replace G11 := Lib.hid (block_below G11.out hb)
            replace G12 := Lib.hid (block_below G12.out hb)
            clear hb
            replace xx := X.out.s
            refine hK.out _ _ xx (fun hHeld => ?_)
            clear hK K hHeld
            try simp only [Act.put, List.setIfInBounds_toArray, List.set_cons_zero, List.set_cons_succ, List.getElem_toArray, List.getElem_cons_zero, List.getElem_cons_succ]
            refine wpAnyH_take (i := 7) (v := ?vn42) rfl (by kernel_rfl) (by kernel_rfl) (by kernel_rfl) (fun _ _ _ h => h) (Or.inl ⟨by rfl, ?hyn42⟩) xx ?rn42
            case hyn42 => (intro w hSw; (try dsimp only at hSw); go_simp; first | done | with_reducible rfl)
            try simp only [Act.put, List.setIfInBounds_toArray, List.set_cons_zero, List.set_cons_succ, List.getElem_toArray, List.getElem_cons_zero, List.getElem_cons_succ]
            refine wpAnyH_take (i := 8) (v := ?vn43) rfl (by kernel_rfl) (by kernel_rfl) (by kernel_rfl) (fun _ _ _ h => h) (Or.inl ⟨by rfl, ?hyn43⟩) xx ?rn43
            case hyn43 => (intro w hSw; (try dsimp only at hSw); go_simp; first | done | with_reducible rfl)
            try simp only [Act.put, List.setIfInBounds_toArray, List.set_cons_zero, List.set_cons_succ, List.getElem_toArray, List.getElem_cons_zero, List.getElem_cons_succ]
            refine wpAnyH_take (i := 9) (v := ?vn44) rfl (by kernel_rfl) (by kernel_rfl) (by kernel_rfl) (fun _ _ _ h => h) (Or.inl ⟨by rfl, ?hyn44⟩) xx ?rn44
            case hyn44 => (intro w hSw; (try dsimp only at hSw); go_simp; first | done | with_reducible rfl)
            try simp only [Act.put, List.setIfInBounds_toArray, List.set_cons_zero, List.set_cons_succ, List.getElem_toArray, List.getElem_cons_zero, List.getElem_cons_succ]
            refine wpAnyH_take (i := 10) (v := ?vn45) rfl (by kernel_rfl) (by kernel_rfl) (by kernel_rfl) (fun _ _ _ h => h) (Or.inl ⟨by rfl, ?hyn45⟩) xx ?rn45
            case hyn45 => (intro w hSw; (try dsimp only at hSw); go_simp; first | done | with_reducible rfl)
            try simp only [Act.put, List.setIfInBounds_toArray, List.set_cons_zero, List.set_cons_succ, List.getElem_toArray, List.getElem_cons_zero, List.getElem_cons_succ]
            obtain ⟨p0, p1, p2, p3, p4⟩ := cells5 (G11.out); obtain ⟨pf0, pf1, pf2, pf3, pf4⟩ := frees5 (G11.out)
            refine wpAnyH_ready (rs := [13]) (by kernel_rfl) (by simp) ?_
            refine AllReadyH.cons rfl (fun K hK => ?_) AllReadyH.nil
            go_simp
            obtain ⟨wy, hwy, X, V, G11, G12⟩ := Nx.leaf5 x9 X V G11 rfl G12 hl11 hv11 hne
            rw [hwy]
            clear hwy p0 p1 p2 p3 p4 pf0 pf1 pf2 pf3 pf4
            replace xx := X.out.s
            refine hK.out _ _ xx (fun hHeld => ?_)
            clear hK K hHeld
            try simp only [Act.put, List.setIfInBounds_toArray, List.set_cons_zero, List.set_cons_succ, List.getElem_toArray, List.getElem_cons_zero, List.getElem_cons_succ]
            obtain ⟨p0, p1, p2, p3, p4, p5⟩ := cells6 (G12.out); obtain ⟨pf0, pf1, pf2, pf3, pf4, pf5⟩ := frees6 (G12.out)
            refine wpAnyH_ready (rs := [14]) (by kernel_rfl) (by simp) ?_
            refine AllReadyH.cons rfl (fun K hK => ?_) AllReadyH.nil
            go_simp
            obtain ⟨wx, hwy, X, V, G11, G12⟩ := Nx.leaf6 f X V G12 rfl G11 hl12 hv12 hne
            rw [hwy]
            clear hwy p0 p1 p2 p3 p4 p5 pf0 pf1 pf2 pf3 pf4 pf5
            replace xx := X.out.s
            refine hK.out _ _ xx (fun hHeld => ?_)
            clear hK K hHeld
            try simp only [Act.put, List.setIfInBounds_toArray, List.set_cons_zero, List.set_cons_succ, List.getElem_toArray, List.getElem_cons_zero, List.getElem_cons_succ]
            refine wpAnyH_take (i := 15) (v := ?vn46) rfl (by kernel_rfl) (by kernel_rfl) (by kernel_rfl) (fun _ _ _ h => h) (Or.inl ⟨by rfl, ?hyn46⟩) xx ?rn46
            case hyn46 => (intro w hSw; (try dsimp only at hSw); go_simp; first | done | with_reducible rfl)
            try simp only [Act.put, List.setIfInBounds_toArray, List.set_cons_zero, List.set_cons_succ, List.getElem_toArray, List.getElem_cons_zero, List.getElem_cons_succ]
            refine wpAnyH_done (by kernel_rfl) ?_ _
            refine NoPanic.normal ?_
            go_wp2_with fail
            go_meet
            exact ⟨b11, b12, x9, hl11, hl12, rfl, rfl, rfl, HLK, X, V, G11, G12⟩
          refine AllReadyH.cons rfl (fun K hK => ?_) AllReadyH.nil
          go_simp
          have AL := Lib.hid ((Below.refl wz0.heap.size wz0).alloc (Nat.le_refl _) (.cells #[.string ⟨#[]⟩, .int .i64 0, .int .i64 0, .int .i64 0, .string ⟨#[]⟩, .int .i64 0] 100))
          have hv12 : u10.ownBlock ≠ some wz0.heap.size := fun e => by have := (V.out.lt _ e).2; omega
          have hl12 : xb + 1 < wz0.heap.size := X.out.lt
          have G12 := Lib.hid (at_a0 wz0 #[.string ⟨#[]⟩, .int .i64 0, .int .i64 0, .int .i64 0, .string ⟨#[]⟩, .int .i64 0] 100)
          replace X := Lib.hid (X.out.below AL.out)
          replace V := Lib.hid (V.out.below AL.out)
          clear AL
          replace xx := X.out.s
          generalize wz0.alloc (.cells #[.string ⟨#[]⟩, .int .i64 0, .int .i64 0, .int .i64 0, .string ⟨#[]⟩, .int .i64 0] 100) = wz1 at *
          generalize wz0.heap.size = b12 at *
          refine hK.out _ _ xx (fun hHeld => ?_)
          clear hK K hHeld
          try simp only [Act.put, List.setIfInBounds_toArray, List.set_cons_zero, List.set_cons_succ, List.getElem_toArray, List.getElem_cons_zero, List.getElem_cons_succ]
          refine wpAnyH_ready (rs := [5, 11]) (by kernel_rfl) (by simp) ?_
          refine AllReadyH.cons rfl (fun K hK => ?_) ?_
          · go_simp
            (go_at_call 28; refine (BT.out _).mono ?_; rintro e wx ⟨rfl, rfl⟩)
            refine hK.out _ _ xx (fun hHeld => ?_)
            clear hK K hHeld
            try simp only [Act.put, List.setIfInBounds_toArray, List.set_cons_zero, List.set_cons_succ, List.getElem_toArray, List.getElem_cons_zero, List.getElem_cons_succ]
            refine wpAnyH_ready (rs := [6, 11]) (by kernel_rfl) (by simp) ?_
            refine AllReadyH.cons rfl (fun K hK => ?_) ?_
            · go_simp
              (go_at_call 105; (with_reducible refine (PA.out _).mono ?_); rintro e wz2 ⟨x9, hlk, rfl, hb⟩)
              have HLK := Lib.hid hlk
              clear hlk
              replace X := Lib.hid (X.out.below hb)
              replace V := Lib.hid (V.out.below hb)
              replace G12 := Lib.hid (block_below G12.out hb)
              clear hb
              replace xx := X.out.s
              refine hK.out _ _ xx (fun hHeld => ?_)
              clear hK K hHeld
              try simp only [Act.put, List.setIfInBounds_toArray, List.set_cons_zero, List.set_cons_succ, List.getElem_toArray, List.getElem_cons_zero, List.getElem_cons_succ]
              refine wpAnyH_take (i := 7) (v := ?vn47) rfl (by kernel_rfl) (by kernel_rfl) (by kernel_rfl) (fun _ _ _ h => h) (Or.inl ⟨by rfl, ?hyn47⟩) xx ?rn47
              case hyn47 => (intro w hSw; (try dsimp only at hSw); go_simp; first | done | with_reducible rfl)
              try simp only [Act.put, List.setIfInBounds_toArray, List.set_cons_zero, List.set_cons_succ, List.getElem_toArray, List.getElem_cons_zero, List.getElem_cons_succ]
              refine wpAnyH_take (i := 8) (v := ?vn48) rfl (by kernel_rfl) (by kernel_rfl) (by kernel_rfl) (fun _ _ _ h => h) (Or.inl ⟨by rfl, ?hyn48⟩) xx ?rn48
              case hyn48 => (intro w hSw; (try dsimp only at hSw); go_simp; first | done | with_reducible rfl)
              try simp only [Act.put, List.setIfInBounds_toArray, List.set_cons_zero, List.set_cons_succ, List.getElem_toArray, List.getElem_cons_zero, List.getElem_cons_succ]
              refine wpAnyH_take (i := 9) (v := ?vn49) rfl (by kernel_rfl) (by kernel_rfl) (by kernel_rfl) (fun _ _ _ h => h) (Or.inl ⟨by rfl, ?hyn49⟩) xx ?rn49
              case hyn49 => (intro w hSw; (try dsimp only at hSw); go_simp; first | done | with_reducible rfl)
              try simp only [Act.put, List.setIfInBounds_toArray, List.set_cons_zero, List.set_cons_succ, List.getElem_toArray, List.getElem_cons_zero, List.getElem_cons_succ]
              refine wpAnyH_take (i := 10) (v := ?vn50) rfl (by kernel_rfl) (by kernel_rfl) (by kernel_rfl) (fun _ _ _ h => h) (Or.inl ⟨by rfl, ?hyn50⟩) xx ?rn50
              case hyn50 => (intro w hSw; (try dsimp only at hSw); go_simp; first | done | with_reducible rfl)
              try simp only [Act.put, List.setIfInBounds_toArray, List.set_cons_zero, List.set_cons_succ, List.getElem_toArray, List.getElem_cons_zero, List.getElem_cons_succ]
              refine wpAnyH_ready (rs := [11]) (by kernel_rfl) (by simp) ?_
              refine AllReadyH.cons rfl (fun K hK => ?_) AllReadyH.nil
              go_simp
              have AL := Lib.hid ((Below.refl wz2.heap.size wz2).alloc (Nat.le_refl _) (.cells #[.string ⟨#[]⟩, .int .i64 0, .int .i64 0, .int .i64 0, .int .i64 0] 103))
              have hv11 : u10.ownBlock ≠ some wz2.heap.size := fun e => by have := (V.out.lt _ e).2; omega
              have hl11 : xb + 1 < wz2.heap.size := X.out.lt
              have hne : wz2.heap.size ≠ b12 := by have := (Array.getElem?_eq_some_iff.1 G12.out).1; omega
              replace G12 := Lib.hid (block_below G12.out AL.out)
              have G11 := Lib.hid (at_a0 wz2 #[.string ⟨#[]⟩, .int .i64 0, .int .i64 0, .int .i64 0, .int .i64 0] 103)
              replace X := Lib.hid (X.out.below AL.out)
              replace V := Lib.hid (V.out.below AL.out)
              clear AL
              replace xx := X.out.s
              generalize wz2.alloc (.cells #[.string ⟨#[]⟩, .int .i64 0, .int .i64 0, .int .i64 0, .int .i64 0] 103) = wz3 at *
              generalize wz2.heap.size = b11 at *
              refine hK.out _ _ xx (fun hHeld => ?_)
              clear hK K hHeld
              try simp only [Act.put, List.setIfInBounds_toArray, List.set_cons_zero, List.set_cons_succ, List.getElem_toArray, List.getElem_cons_zero, List.getElem_cons_succ]
              obtain ⟨p0, p1, p2, p3, p4⟩ := cells5 (G11.out); obtain ⟨pf0, pf1, pf2, pf3, pf4⟩ := frees5 (G11.out)
              refine wpAnyH_ready (rs := [13]) (by kernel_rfl) (by simp) ?_
              refine AllReadyH.cons rfl (fun K hK => ?_) AllReadyH.nil
              go_simp
              obtain ⟨wy, hwy, X, V, G11, G12⟩ := Nx.leaf5 x9 X V G11 rfl G12 hl11 hv11 hne
              rw [hwy]
              clear hwy p0 p1 p2 p3 p4 pf0 pf1 pf2 pf3 pf4
              replace xx := X.out.s
              refine hK.out _ _ xx (fun hHeld => ?_)
              clear hK K hHeld
              try simp only [Act.put, List.setIfInBounds_toArray, List.set_cons_zero, List.set_cons_succ, List.getElem_toArray, List.getElem_cons_zero, List.getElem_cons_succ]
              obtain ⟨p0, p1, p2, p3, p4, p5⟩ := cells6 (G12.out); obtain ⟨pf0, pf1, pf2, pf3, pf4, pf5⟩ := frees6 (G12.out)
              refine wpAnyH_ready (rs := [14]) (by kernel_rfl) (by simp) ?_
              refine AllReadyH.cons rfl (fun K hK => ?_) AllReadyH.nil
              go_simp
              obtain ⟨wx, hwy, X, V, G11, G12⟩ := Nx.leaf6 f X V G12 rfl G11 hl12 hv12 hne
              rw [hwy]
              clear hwy p0 p1 p2 p3 p4 p5 pf0 pf1 pf2 pf3 pf4 pf5
              replace xx := X.out.s
              refine hK.out _ _ xx (fun hHeld => ?_)
              clear hK K hHeld
              try simp only [Act.put, List.setIfInBounds_toArray, List.set_cons_zero, List.set_cons_succ, List.getElem_toArray, List.getElem_cons_zero, List.getElem_cons_succ]
              refine wpAnyH_take (i := 15) (v := ?vn51) rfl (by kernel_rfl) (by kernel_rfl) (by kernel_rfl) (fun _ _ _ h => h) (Or.inl ⟨by rfl, ?hyn51⟩) xx ?rn51
              case hyn51 => (intro w hSw; (try dsimp only at hSw); go_simp; first | done | with_reducible rfl)
              try simp only [Act.put, List.setIfInBounds_toArray, List.set_cons_zero, List.set_cons_succ, List.getElem_toArray, List.getElem_cons_zero, List.getElem_cons_succ]
              refine wpAnyH_done (by kernel_rfl) ?_ _
              refine NoPanic.normal ?_
              go_wp2_with fail
              go_meet
              exact ⟨b11, b12, x9, hl11, hl12, rfl, rfl, rfl, HLK, X, V, G11, G12⟩
            refine AllReadyH.cons rfl (fun K hK => ?_) AllReadyH.nil
            go_simp
            have AL := Lib.hid ((Below.refl wz1.heap.size wz1).alloc (Nat.le_refl _) (.cells #[.string ⟨#[]⟩, .int .i64 0, .int .i64 0, .int .i64 0, .int .i64 0] 103))
            have hv11 : u10.ownBlock ≠ some wz1.heap.size := fun e => by have := (V.out.lt _ e).2; omega
            have hl11 : xb + 1 < wz1.heap.size := X.out.lt
            have hne : wz1.heap.size ≠ b12 := by have := (Array.getElem?_eq_some_iff.1 G12.out).1; omega
            replace G12 := Lib.hid (block_below G12.out AL.out)
            have G11 := Lib.hid (at_a0 wz1 #[.string ⟨#[]⟩, .int .i64 0, .int .i64 0, .int .i64 0, .int .i64 0] 103)
            replace X := Lib.hid (X.out.below AL.out)
            replace V := Lib.hid (V.out.below AL.out)
            clear AL
            replace xx := X.out.s
            generalize wz1.alloc (.cells #[.string ⟨#[]⟩, .int .i64 0, .int .i64 0, .int .i64 0, .int .i64 0] 103) = wz2 at *
            generalize wz1.heap.size = b11 at *
            refine hK.out _ _ xx (fun hHeld => ?_)
            clear hK K hHeld
            try simp only [Act.put, List.setIfInBounds_toArray, List.set_cons_zero, List.set_cons_succ, List.getElem_toArray, List.getElem_cons_zero, List.getElem_cons_succ]
            refine wpAnyH_ready (rs := [6]) (by kernel_rfl) (by simp) ?_
            refine AllReadyH.cons rfl (fun K hK => ?_) AllReadyH.nil
            go_simp
            (go_at_call 105; (with_reducible refine (PA.out _).mono ?_); rintro e wz3 ⟨x9, hlk, rfl, hb⟩)
            have HLK := Lib.hid hlk
            clear hlk
            replace X := Lib.hid (X.out.below hb)
            replace V := Lib.hid (V.out.below hb)
            replace G11 := Lib.hid (block_below G11.out hb)
            replace G12 := Lib.hid (block_below G12.out hb)
            clear hb
            replace xx := X.out.s
            refine hK.out _ _ xx (fun hHeld => ?_)
            clear hK K hHeld
            try simp only [Act.put, List.setIfInBounds_toArray, List.set_cons_zero, List.set_cons_succ, List.getElem_toArray, List.getElem_cons_zero, List.getElem_cons_succ]
            refine wpAnyH_take (i := 7) (v := ?vn52) rfl (by kernel_rfl) (by kernel_rfl) (by kernel_rfl) (fun _ _ _ h => h) (Or.inl ⟨by rfl, ?hyn52⟩) xx ?rn52
            case hyn52 => (intro w hSw; (try dsimp only at hSw); go_simp; first | done | with_reducible rfl)
            try simp only [Act.put, List.setIfInBounds_toArray, List.set_cons_zero, List.set_cons_succ, List.getElem_toArray, List.getElem_cons_zero, List.getElem_cons_succ]
            refine wpAnyH_take (i := 8) (v := ?vn53) rfl (by kernel_rfl) (by kernel_rfl) (by kernel_rfl) (fun _ _ _ h => h) (Or.inl ⟨by rfl, ?hyn53⟩) xx ?rn53
            case hyn53 => (intro w hSw; (try dsimp only at hSw); go_simp; first | done | with_reducible rfl)
            try simp only [Act.put, List.setIfInBounds_toArray, List.set_cons_zero, List.set_cons_succ, List.getElem_toArray, List.getElem_cons_zero, List.getElem_cons_succ]
            refine wpAnyH_take (i := 9) (v := ?vn54) rfl (by kernel_rfl) (by kernel_rfl) (by kernel_rfl) (fun _ _ _ h => h) (Or.inl ⟨by rfl, ?hyn54⟩) xx ?rn54
            case hyn54 => (intro w hSw; (try dsimp only at hSw); go_simp; first | done | with_reducible rfl)
            try simp only [Act.put, List.setIfInBounds_toArray, List.set_cons_zero, List.set_cons_succ, List.getElem_toArray, List.getElem_cons_zero, List.getElem_cons_succ]
            refine wpAnyH_take (i := 10) (v := ?vn55) rfl (by kernel_rfl) (by kernel_rfl) (by kernel_rfl) (fun _ _ _ h => h) (Or.inl ⟨by rfl, ?hyn55⟩) xx ?rn55
            case hyn55 => (intro w hSw; (try dsimp only at hSw); go_simp; first | done | with_reducible rfl)
            try simp only [Act.put, List.setIfInBounds_toArray, List.set_cons_zero, List.set_cons_succ, List.getElem_toArray, List.getElem_cons_zero, List.getElem_cons_succ]
            obtain ⟨p0, p1, p2, p3, p4⟩ := cells5 (G11.out); obtain ⟨pf0, pf1, pf2, pf3, pf4⟩ := frees5 (G11.out)
            refine wpAnyH_ready (rs := [13]) (by kernel_rfl) (by simp) ?_
            refine AllReadyH.cons rfl (fun K hK => ?_) AllReadyH.nil
            go_simp
            obtain ⟨wy, hwy, X, V, G11, G12⟩ := Nx.leaf5 x9 X V G11 rfl G12 hl11 hv11 hne
            rw [hwy]
            clear hwy p0 p1 p2 p3 p4 pf0 pf1 pf2 pf3 pf4
            replace xx := X.out.s
            refine hK.out _ _ xx (fun hHeld => ?_)
            clear hK K hHeld
            try simp only [Act.put, List.setIfInBounds_toArray, List.set_cons_zero, List.set_cons_succ, List.getElem_toArray, List.getElem_cons_zero, List.getElem_cons_succ]
            obtain ⟨p0, p1, p2, p3, p4, p5⟩ := cells6 (G12.out); obtain ⟨pf0, pf1, pf2, pf3, pf4, pf5⟩ := frees6 (G12.out)
            refine wpAnyH_ready (rs := [14]) (by kernel_rfl) (by simp) ?_
            refine AllReadyH.cons rfl (fun K hK => ?_) AllReadyH.nil
            go_simp
            obtain ⟨wx, hwy, X, V, G11, G12⟩ := Nx.leaf6 f X V G12 rfl G11 hl12 hv12 hne
            rw [hwy]
            clear hwy p0 p1 p2 p3 p4 p5 pf0 pf1 pf2 pf3 pf4 pf5
            replace xx := X.out.s
            refine hK.out _ _ xx (fun hHeld => ?_)
            clear hK K hHeld
            try simp only [Act.put, List.setIfInBounds_toArray, List.set_cons_zero, List.set_cons_succ, List.getElem_toArray, List.getElem_cons_zero, List.getElem_cons_succ]
            refine wpAnyH_take (i := 15) (v := ?vn56) rfl (by kernel_rfl) (by kernel_rfl) (by kernel_rfl) (fun _ _ _ h => h) (Or.inl ⟨by rfl, ?hyn56⟩) xx ?rn56
            case hyn56 => (intro w hSw; (try dsimp only at hSw); go_simp; first | done | with_reducible rfl)
            try simp only [Act.put, List.setIfInBounds_toArray, List.set_cons_zero, List.set_cons_succ, List.getElem_toArray, List.getElem_cons_zero, List.getElem_cons_succ]
            refine wpAnyH_done (by kernel_rfl) ?_ _
            refine NoPanic.normal ?_
            go_wp2_with fail
            go_meet
            exact ⟨b11, b12, x9, hl11, hl12, rfl, rfl, rfl, HLK, X, V, G11, G12⟩
          refine AllReadyH.cons rfl (fun K hK => ?_) AllReadyH.nil
          go_simp
          have AL := Lib.hid ((Below.refl wz1.heap.size wz1).alloc (Nat.le_refl _) (.cells #[.string ⟨#[]⟩, .int .i64 0, .int .i64 0, .int .i64 0, .int .i64 0] 103))
          have hv11 : u10.ownBlock ≠ some wz1.heap.size := fun e => by have := (V.out.lt _ e).2; omega
          have hl11 : xb + 1 < wz1.heap.size := X.out.lt
          have hne : wz1.heap.size ≠ b12 := by have := (Array.getElem?_eq_some_iff.1 G12.out).1; omega
          replace G12 := Lib.hid (block_below G12.out AL.out)
          have G11 := Lib.hid (at_a0 wz1 #[.string ⟨#[]⟩, .int .i64 0, .int .i64 0, .int .i64 0, .int .i64 0] 103)
          replace X := Lib.hid (X.out.below AL.out)
          replace V := Lib.hid (V.out.below AL.out)
          clear AL
          replace xx := X.out.s
          generalize wz1.alloc (.cells #[.string ⟨#[]⟩, .int .i64 0, .int .i64 0, .int .i64 0, .int .i64 0] 103) = wz2 at *
          generalize wz1.heap.size = b11 at *
          refine hK.out _ _ xx (fun hHeld => ?_)
          clear hK K hHeld
          try simp only [Act.put, List.setIfInBounds_toArray, List.set_cons_zero, List.set_cons_succ, List.getElem_toArray, List.getElem_cons_zero, List.getElem_cons_succ]
          refine wpAnyH_ready (rs := [5]) (by kernel_rfl) (by simp) ?_
          refine AllReadyH.cons rfl (fun K hK => ?_) AllReadyH.nil
          go_simp
          (go_at_call 28; refine (BT.out _).mono ?_; rintro e wx ⟨rfl, rfl⟩)
          refine hK.out _ _ xx (fun hHeld => ?_)
          clear hK K hHeld
          try simp only [Act.put, List.setIfInBounds_toArray, List.set_cons_zero, List.set_cons_succ, List.getElem_toArray, List.getElem_cons_zero, List.getElem_cons_succ]
          refine wpAnyH_ready (rs := [6]) (by kernel_rfl) (by simp) ?_
          refine AllReadyH.cons rfl (fun K hK => ?_) AllReadyH.nil
          go_simp
          (go_at_call 105; (with_reducible refine (PA.out _).mono ?_); rintro e wz3 ⟨x9, hlk, rfl, hb⟩)
          have HLK := Lib.hid hlk
          clear hlk
          replace X := Lib.hid (X.out.below hb)
          replace V := Lib.hid (V.out.below hb)
          replace G11 := Lib.hid (block_below G11.out hb)
          replace G12 := Lib.hid (block_below G12.out hb)
          clear hb
          replace xx := X.out.s
          refine hK.out _ _ xx (fun hHeld => ?_)
          clear hK K hHeld
          try simp only [Act.put, List.setIfInBounds_toArray, List.set_cons_zero, List.set_cons_succ, List.getElem_toArray, List.getElem_cons_zero, List.getElem_cons_succ]
          refine wpAnyH_take (i := 7) (v := ?vn57) rfl (by kernel_rfl) (by kernel_rfl) (by kernel_rfl) (fun _ _ _ h => h) (Or.inl ⟨by rfl, ?hyn57⟩) xx ?rn57
          case hyn57 => (intro w hSw; (try dsimp only at hSw); go_simp; first | done | with_reducible rfl)
          try simp only [Act.put, List.setIfInBounds_toArray, List.set_cons_zero, List.set_cons_succ, List.getElem_toArray, List.getElem_cons_zero, List.getElem_cons_succ]
          refine wpAnyH_take (i := 8) (v := ?vn58) rfl (by kernel_rfl) (by kernel_rfl) (by kernel_rfl) (fun _ _ _ h => h) (Or.inl ⟨by rfl, ?hyn58⟩) xx ?rn58
          case hyn58 => (intro w hSw; (try dsimp only at hSw); go_simp; first | done | with_reducible rfl)
          try simp only [Act.put, List.setIfInBounds_toArray, List.set_cons_zero, List.set_cons_succ, List.getElem_toArray, List.getElem_cons_zero, List.getElem_cons_succ]
          refine wpAnyH_take (i := 9) (v := ?vn59) rfl (by kernel_rfl) (by kernel_rfl) (by kernel_rfl) (fun _ _ _ h => h) (Or.inl ⟨by rfl, ?hyn59⟩) xx ?rn59
          case hyn59 => (intro w hSw; (try dsimp only at hSw); go_simp; first | done | with_reducible rfl)
          try simp only [Act.put, List.setIfInBounds_toArray, List.set_cons_zero, List.set_cons_succ, List.getElem_toArray, List.getElem_cons_zero, List.getElem_cons_succ]
          refine wpAnyH_take (i := 10) (v := ?vn60) rfl (by kernel_rfl) (by kernel_rfl) (by kernel_rfl) (fun _ _ _ h => h) (Or.inl ⟨by rfl, ?hyn60⟩) xx ?rn60
          case hyn60 => (intro w hSw; (try dsimp only at hSw); go_simp; first | done | with_reducible rfl)
          try simp only [Act.put, List.setIfInBounds_toArray, List.set_cons_zero, List.set_cons_succ, List.getElem_toArray, List.getElem_cons_zero, List.getElem_cons_succ]
          obtain ⟨p0, p1, p2, p3, p4⟩ := cells5 (G11.out); obtain ⟨pf0, pf1, pf2, pf3, pf4⟩ := frees5 (G11.out)
          refine wpAnyH_ready (rs := [13]) (by kernel_rfl) (by simp) ?_
          refine AllReadyH.cons rfl (fun K hK => ?_) AllReadyH.nil
          go_simp
          obtain ⟨wy, hwy, X, V, G11, G12⟩ := Nx.leaf5 x9 X V G11 rfl G12 hl11 hv11 hne
          rw [hwy]
          clear hwy p0 p1 p2 p3 p4 pf0 pf1 pf2 pf3 pf4
          replace xx := X.out.s
          refine hK.out _ _ xx (fun hHeld => ?_)
          clear hK K hHeld
          try simp only [Act.put, List.setIfInBounds_toArray, List.set_cons_zero, List.set_cons_succ, List.getElem_toArray, List.getElem_cons_zero, List.getElem_cons_succ]
          obtain ⟨p0, p1, p2, p3, p4, p5⟩ := cells6 (G12.out); obtain ⟨pf0, pf1, pf2, pf3, pf4, pf5⟩ := frees6 (G12.out)
          refine wpAnyH_ready (rs := [14]) (by kernel_rfl) (by simp) ?_
          refine AllReadyH.cons rfl (fun K hK => ?_) AllReadyH.nil
          go_simp
          obtain ⟨wx, hwy, X, V, G11, G12⟩ := Nx.leaf6 f X V G12 rfl G11 hl12 hv12 hne
          rw [hwy]
          clear hwy p0 p1 p2 p3 p4 p5 pf0 pf1 pf2 pf3 pf4 pf5
          replace xx := X.out.s
          refine hK.out _ _ xx (fun hHeld => ?_)
          clear hK K hHeld
          try simp only [Act.put, List.setIfInBounds_toArray, List.set_cons_zero, List.set_cons_succ, List.getElem_toArray, List.getElem_cons_zero, List.getElem_cons_succ]
          refine wpAnyH_take (i := 15) (v := ?vn61) rfl (by kernel_rfl) (by kernel_rfl) (by kernel_rfl) (fun _ _ _ h => h) (Or.inl ⟨by rfl, ?hyn61⟩) xx ?rn61
          case hyn61 => (intro w hSw; (try dsimp only at hSw); go_simp; first | done | with_reducible rfl)
          try simp only [Act.put, List.setIfInBounds_toArray, List.set_cons_zero, List.set_cons_succ, List.getElem_toArray, List.getElem_cons_zero, List.getElem_cons_succ]
          refine wpAnyH_done (by kernel_rfl) ?_ _
          refine NoPanic.normal ?_
          go_wp2_with fail
          go_meet
          exact ⟨b11, b12, x9, hl11, hl12, rfl, rfl, rfl, HLK, X, V, G11, G12⟩
        case rest =>
          obtain ⟨b11, b12, x, hl11, hl12, rfl, rfl, rfl, HLK, X2, V2, G11, G12⟩ := hcut
          clear X V PA
          have X := X2
          have V := V2
          clear X2 V2
          have qa := X.out.r.all; obtain ⟨⟨q0, q1, q2, q3, q4⟩, qf0, qf1, qf2, qf3, qf4⟩ := qa; obtain ⟨t0, t1, t2, t3⟩ := cells4 (X.out.t); obtain ⟨tf0, tf1, tf2, tf3⟩ := frees4 (X.out.t)
          obtain ⟨p0, p1, p2, p3, p4⟩ := cells5 (G11.out)
          rcases ok with _ | _
          · obtain ⟨hok', hbs'⟩ := HST.out rfl
            have hA : (m', fs) = res := by have h := HA.out; rw [if_neg (by decide)] at h; exact h
            have HA2 := Lib.hid hA
            clear hA HA HON HCD HST
            go_upto_region 20 with (fail)
            replace X := Lib.hid (X.out.setr x)
            replace V := Lib.hid (V.out.onlyT (b := xb) (show Only xb _ (((((wc.setCell ⟨xb, 0, none⟩ (.string ⟨x.t.toArray⟩)).setCell ⟨xb, 1, none⟩ (.int .i64 x.nx)).setCell ⟨xb, 2, none⟩ (.int .i64 x.bs)).setCell ⟨xb, 3, none⟩ (.int .i64 x.cd)).setCell ⟨xb, 4, none⟩ (.int .i64 x.pl)) from ((((Only.set _).trans (Only.set _)).trans (Only.set _)).trans (Only.set _)).trans (Only.set _)) (by omega))
            clear q0 q1 q2 q3 q4 qf0 qf1 qf2 qf3 qf4 t0 t1 t2 t3 tf0 tf1 tf2 tf3
            clear p0 p1 p2 p3 p4 G11 G12
            generalize (((((wc.setCell ⟨xb, 0, none⟩ (.string ⟨x.t.toArray⟩)).setCell ⟨xb, 1, none⟩ (.int .i64 x.nx)).setCell ⟨xb, 2, none⟩ (.int .i64 x.bs)).setCell ⟨xb, 3, none⟩ (.int .i64 x.cd)).setCell ⟨xb, 4, none⟩ (.int .i64 x.pl)) = w8 at *
            have qa := X.out.r.all; obtain ⟨⟨q0, q1, q2, q3, q4⟩, qf0, qf1, qf2, qf3, qf4⟩ := qa; obtain ⟨t0, t1, t2, t3⟩ := cells4 (X.out.t); obtain ⟨tf0, tf1, tf2, tf3⟩ := frees4 (X.out.t)
            obtain ⟨z0, z1, z2, z3, z4⟩ := cells5 (X.out.z); obtain ⟨zf0, zf1, zf2, zf3, zf4⟩ := frees5 (X.out.z)
            by_cases hc : m'.cd = 0
            · obtain rfl := HLK.out.2.2 hc
              clear HLK
              have hcb : (x.cd != 0) = false := by rw [hc]; rfl
              have hpl : 0 ≤ x.bs ∧ x.bs ≤ 1000000000000 := ⟨hok'.2.2.1, by omega⟩
              have hnx := hok'.1
              have hlen := hok'.2.1
              have HC := Lib.hid hc
              clear hc hbs'
              have HP : Hid (padM x = if nzAt (x.t.drop x.nx) < (x.t.drop x.nx).length then (adv x (x.t.length - x.nx)).fail 1 (x.bs + x.nx + (nzAt (x.t.drop x.nx) : Nat)) else adv x (x.t.length - x.nx)) := Lib.hid (by unfold padM; rw [rest_of hnx HC.out])
              go_wp2
              go_loop [14] (fun i => ∃ (k : Nat), x.nx ≤ k ∧ k ≤ x.t.length ∧ i = .int .i64 k ∧ Hid (∀ y ∈ (x.t.drop x.nx).take (k - x.nx), (y != 0) = false)) (fun i => x.t.length - (intOf i).toNat)
              case atStart => exact ⟨x.nx, Nat.le_refl _, hnx, rfl, Lib.hid (by simp)⟩
              case round =>
                obtain ⟨k, hk0, hk, rfl, HG⟩ := hrel
                by_cases hlt : k < x.t.length
                · have g0 : (k : Int) < x.t.length := by omega
                  have hj : k - x.nx < (x.t.drop x.nx).length := by rw [List.length_drop]; omega
                  have hns := nz_step hj HG.out
                  have he : (x.t.drop x.nx)[k - x.nx] = x.t[k] := by rw [List.getElem_drop]; congr 1; omega
                  rw [he] at hns
                  have HJ := Lib.hid hj
                  clear hj he
                  by_cases hz : x.t[k] = 0
                  · have HG2 := Lib.hid (hns.1 hz)
                    have t1' : ((x.t[k].toNat : Int) != 0) = false := by rw [hz]; rfl
                    clear hns hz
                    go_wp2
                    go_round
                    case rel => exact ⟨k + 1, by omega, by omega, by go_num, by rw [show k + 1 - x.nx = k - x.nx + 1 by omega]; exact HG2⟩
                    case measure => simp [intOf]; omega
                  · have HN := Lib.hid (hns.2 hz)
                    have t1' : ((x.t[k].toNat : Int) != 0) = true := by
                      simp only [bne_iff_ne, ne_eq]
                      intro e
                      exact hz (by rw [u8_eq]; show x.t[k].toNat = 0; omega)
                    have wk : IntKind.i64.wrap (x.bs + (k : Int)) = x.bs + (k : Int) := IntWalk.i64_in _ (by omega)
                    have FL := Lib.hid (fun w => rfail_any x 1 (x.bs + (k : Int)) w)
                    clear hns hz
                    go_wp2_with (go_at_call 101; (with_reducible refine (FL.out _).mono ?_); rintro e w9 ⟨rfl, hb9⟩; clear q0 q1 q2 q3 q4 qf0 qf1 qf2 qf3 qf4 t0 t1 t2 t3 tf0 tf1 tf2 tf3; clear z0 z1 z2 z3 z4 zf0 zf1 zf2 zf3 zf4; replace X := Lib.hid (X.out.below hb9); clear hb9; obtain ⟨z0, z1, z2, z3, z4⟩ := cells5 (X.out.z); obtain ⟨zf0, zf1, zf2, zf3, zf4⟩ := frees5 (X.out.z))
                    have hzw : w.heap.size ≤ xb + 1 := by have := X.out.hw; omega
                    refine end_cell_tmp rfl rfl rfl (store5 X.out.z rfl) Try.underlying103 rfl info_ref01In ?_
                    have e1 : (padM x) = (adv x (x.t.length - x.nx)).fail 1 (x.bs + (k : Int)) := by
                      rw [HP.out, HN.out, if_pos HJ.out]
                      congr 1
                      omega
                    have e2 : (padM x).cd = 1 ∧ (padM x).pl = x.bs + (k : Int) := by
                      rw [e1, Rd.fail_yes (adv x (x.t.length - x.nx)) 1 (x.bs + (k : Int)) HC.out (by decide)]
                      exact ⟨rfl, rfl⟩
                    have e3 : (x.fail 1 (x.bs + (k : Int))).cd = 1 ∧ (x.fail 1 (x.bs + (k : Int))).pl = x.bs + (k : Int) := by
                      rw [Rd.fail_yes x 1 (x.bs + (k : Int)) HC.out (by decide)]
                      exact ⟨rfl, rfl⟩
                    rw [HRES.out, ← HA2.out]
                    refine ⟨x.fail 1 (x.bs + (k : Int)), none, 0, 0, e3.1.trans e2.1.symm, fun _ => e3.2.trans e2.2.symm, rfl, fun h => ?_, ((((X.out.k.setCell hzw _).setCell hzw _).setCell hzw _).setCell hzw _).setCell hzw _⟩
                    exact absurd (e2.1.symm.trans h) (by decide)
                · have g0 : ¬ (k : Int) < x.t.length := by omega
                  have hkn : k = x.t.length := by omega
                  subst hkn
                  have HN : Hid (¬ nzAt (x.t.drop x.nx) < (x.t.drop x.nx).length) := Lib.hid (by
                    have e0 := HG.out
                    rw [List.take_of_length_le (by rw [List.length_drop]; omega)] at e0
                    have : nzAt (x.t.drop x.nx) = (x.t.drop x.nx).length := findIdx_none e0
                    omega)
                  go_wp2
                  have hzw : w.heap.size ≤ xb + 1 := by have := X.out.hw; omega
                  refine end_cell_tmp rfl rfl rfl (store5 X.out.z rfl) Try.underlying103 rfl info_ref01In ?_
                  have e1 : (padM x) = adv x (x.t.length - x.nx) := by rw [HP.out, if_neg HN.out]
                  have e2 : (padM x).cd = 0 := by rw [e1]; exact HC.out
                  rw [HRES.out, ← HA2.out]
                  obtain ⟨a1, cap1, hv1, hcap1, _⟩ := V.out.at
                  have V3 := V.out.onlyT (b := xb + 1) (show Only (xb + 1) _ (((((w8.setCell ⟨xb + 1, 0, none⟩ (.string ⟨x.t.toArray⟩)).setCell ⟨xb + 1, 1, none⟩ (.int .i64 x.nx)).setCell ⟨xb + 1, 2, none⟩ (.int .i64 x.bs)).setCell ⟨xb + 1, 3, none⟩ (.int .i64 x.cd)).setCell ⟨xb + 1, 4, none⟩ (.int .i64 x.pl)) from ((((Only.set _).trans (Only.set _)).trans (Only.set _)).trans (Only.set _)).trans (Only.set _)) (by omega)
                  subst hv1
                  exact ⟨x, a1, _, cap1, HC.out.trans e2.symm, fun h => absurd e2 h, rfl, fun _ => V3.base (by omega), ((((X.out.k.setCell hzw _).setCell hzw _).setCell hzw _).setCell hzw _).setCell hzw _⟩
            · have hcx : x.cd ≠ 0 := by rw [HLK.out.1]; exact hc
              have hcb : (x.cd != 0) = true := by simpa using hcx
              have HC := Lib.hid hc
              clear hc hcx
              go_wp2
              have hzw : w.heap.size ≤ xb + 1 := by have := X.out.hw; omega
              refine end_cell_tmp rfl rfl rfl (store5 X.out.z rfl) Try.underlying103 rfl info_ref01In ?_
              have e1 : padM m' = m' := by
                unfold padM Rd.rest
                rw [take_dead HC.out]
                exact if_neg (by simp)
              rw [HRES.out, ← HA2.out]
              refine ⟨x, none, 0, 0, ?_, fun _ => ?_, rfl, fun h => ?_, ((((X.out.k.setCell hzw _).setCell hzw _).setCell hzw _).setCell hzw _).setCell hzw _⟩
              · show x.cd = (padM m').cd
                rw [e1]; exact HLK.out.1
              · show x.pl = (padM m').pl
                rw [e1]; exact HLK.out.2.1
              · exact absurd ((congrArg Rd.cd e1).symm.trans h) HC.out
          · obtain ⟨ht1', hb1', hn1', hn2', hok'⟩ := HON.out rfl
            obtain rfl := HLK.out.2.2 (HCD.out rfl)
            have hA : frsS v sp g x (fs ++ [f]) = res := by have h := HA.out; rw [if_pos rfl] at h; exact h
            have HA2 := Lib.hid hA
            clear hA HA HON HCD HST HLK
            obtain ⟨a1, cap1, hv1, hcap1, _⟩ := V.out.at
            rw [List.length_map] at hv1
            subst hv1
            have hmnx := hm.1
            have hpl2 : ((fs.length : Int) == 4096) = false := by simp; omega
            have HT1 := Lib.hid ht1'
            have HBS1 := Lib.hid hb1'
            clear ht1' hb1' hcap1
            obtain ⟨s0, s1, s2, s3, s4, s5⟩ := cells6 (G12.out)
            go_upto_region 17 with (fail)
            replace X := Lib.hid (X.out.setr x)
            have o5 : Only xb wc (((((wc.setCell ⟨xb, 0, none⟩ (.string ⟨x.t.toArray⟩)).setCell ⟨xb, 1, none⟩ (.int .i64 x.nx)).setCell ⟨xb, 2, none⟩ (.int .i64 x.bs)).setCell ⟨xb, 3, none⟩ (.int .i64 x.cd)).setCell ⟨xb, 4, none⟩ (.int .i64 x.pl)) := ((((Only.set _).trans (Only.set _)).trans (Only.set _)).trans (Only.set _)).trans (Only.set _)
            replace V := Lib.hid (V.out.onlyT (b := xb) o5 (by omega))
            replace G12 := Lib.hid (block_only G12.out o5 (by omega))
            clear o5
            clear q0 q1 q2 q3 q4 qf0 qf1 qf2 qf3 qf4 t0 t1 t2 t3 tf0 tf1 tf2 tf3
            clear p0 p1 p2 p3 p4 G11 s0 s1 s2 s3 s4 s5
            generalize (((((wc.setCell ⟨xb, 0, none⟩ (.string ⟨x.t.toArray⟩)).setCell ⟨xb, 1, none⟩ (.int .i64 x.nx)).setCell ⟨xb, 2, none⟩ (.int .i64 x.bs)).setCell ⟨xb, 3, none⟩ (.int .i64 x.cd)).setCell ⟨xb, 4, none⟩ (.int .i64 x.pl)) = w8 at *
            have qa := X.out.r.all; obtain ⟨⟨q0, q1, q2, q3, q4⟩, qf0, qf1, qf2, qf3, qf4⟩ := qa; obtain ⟨t0, t1, t2, t3⟩ := cells4 (X.out.t); obtain ⟨tf0, tf1, tf2, tf3⟩ := frees4 (X.out.t)
            obtain ⟨s0, s1, s2, s3, s4, s5⟩ := cells6 (G12.out)
            go_wp2_with (at_builtin; refine wpList_pushR w8 rfl (.tmp 79) (.tmp 81) 38 rfl (xb + 1 + 1) 100 6 64 _ Try.underlying38 info_rframe rfl (by decide) (by decide) _ (fs.map rfR) (rfR f) _ (by rfl) rfl (one_rfR f) (by rfl) V.out (by rfl) (by rw [List.length_map]; omega) (by have := X.out.lt; omega) _ ?_; intro v5 w5 hr5 hg5; have hl5 := V.out.lt; have V5 := Lib.hid hr5; have X5 := Lib.hid (X.out.grown hg5 (fun k e => (hl5 k e).1) (by omega) (by have := X.out.lt; omega)); clear hl5 hr5 hg5)
            go_roundg g
            case measure => omega
            case rel =>
              refine ⟨x, fs ++ [f], hok', by rw [HBS1.out]; exact hb, by rw [HT1.out]; exact htl, by rw [HT1.out]; omega, by rw [List.length_append]; simp; omega, HA2, X5, ?_⟩
              rw [List.map_append]; exact V5
end Go.Proofs.Ytmnmonmbdgedbaa
