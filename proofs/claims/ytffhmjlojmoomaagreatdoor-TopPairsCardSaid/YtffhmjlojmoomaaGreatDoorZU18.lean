/- Layer 4 (run): Forward. | Layer 4 (run): Forward, walked. | Layer 4 (run): the table of pieces, as its readers know it. | Layer 4 (run): the size of a table; a part of a row. | Layer 4 (single): the table of its pieces. | Layer 4 (run), plain: all codes of a table and their signs, one behind the other. | Layer 4 (run): Pairs, walked. -/
import Derived.Test.YtffhmjlojmoomaaGreatDoorZU16
import Derived.Deep.QuietTactic

namespace Go.Proofs.YtffhmjlojmoomaaGreatDoor
open Go.RowKit
set_option linter.unusedVariables false
set_option linter.unusedSimpArgs false

/-- the sign that stands for a code in a table -/
def tabSign (S : List Rv) (a : Nat) : Option Nat := S.findSome? (fun r => if r.fr ≤ a ∧ a < r.fr + r.ct then (rwS r)[a - r.fr]? else none)
def TabDis (S : List Rv) : Prop := S.Pairwise (fun x y => x.fr + x.ct ≤ y.fr)
theorem tabSign_none {S : List Rv} {a : Nat} (h : ∀ r ∈ S, ¬ (r.fr ≤ a ∧ a < r.fr + r.ct)) : tabSign S a = none := by
  unfold tabSign
  rw [List.findSome?_eq_none_iff]
  intro r hr
  rw [if_neg (h r hr)]
theorem tabSign_at {S : List Rv} {a i : Nat} (hd : TabDis S) (hi : i ≤ S.length) (h1 : ∀ h : i < S.length, a < S[i].fr + S[i].ct) (h2 : ∀ h : i - 1 < S.length, 0 < i → S[i - 1].fr + S[i - 1].ct ≤ a) :
    tabSign S a = if h : i < S.length then (if S[i].fr ≤ a then (rwS S[i])[a - S[i].fr]? else none) else none := by
  have hp := List.pairwise_iff_getElem.1 hd
  have low : ∀ j (hj : j < S.length), j < i → S[j].fr + S[j].ct ≤ a := by
    intro j hj hji
    have h3 := h2 (by omega) (by omega)
    by_cases hj1 : j = i - 1
    · subst hj1; exact h3
    · have := hp j (i - 1) hj (by omega) (by omega)
      omega
  split
  case isFalse h =>
    refine tabSign_none (fun r hr => ?_)
    obtain ⟨j, hj, rfl⟩ := List.getElem_of_mem hr
    have := low j hj (by omega)
    omega
  case isTrue h =>
    have e : S = S.take i ++ S[i] :: S.drop (i + 1) := by rw [← List.drop_eq_getElem_cons h, List.take_append_drop]
    have e1 : tabSign (S.take i) a = none := tabSign_none (fun r hr => by
      obtain ⟨j, hj, rfl⟩ := List.getElem_of_mem hr
      have hj' : j < i := by simp at hj; omega
      rw [List.getElem_take]
      have := low j (by omega) hj'
      omega)
    have e2 : tabSign (S.drop (i + 1)) a = none := tabSign_none (fun r hr => by
      obtain ⟨j, hj, rfl⟩ := List.getElem_of_mem hr
      rw [List.getElem_drop]
      have := hp i (i + 1 + j) h (by simp at hj; omega) (by omega)
      have := h1 h
      omega)
    have h3 := h1 h
    generalize hr : S[i] = r at *
    have e3 : tabSign S a = tabSign (S.take i ++ r :: S.drop (i + 1)) a := by rw [← e]
    rw [e3]
    unfold tabSign at e1 e2 ⊢
    rw [List.findSome?_append, e1, Option.none_or, List.findSome?_cons]
    by_cases h4 : r.fr ≤ a
    · rw [if_pos ⟨h4, h3⟩, if_pos h4]
      rcases hx : (rwS r)[a - r.fr]? with _ | x
      · exact e2
      · rfl
    · rw [if_neg (by omega), if_neg h4]
      exact e2
end Go.Proofs.YtffhmjlojmoomaaGreatDoor

namespace Go.Proofs.YtffhmjlojmoomaaGreatDoor
open Go.RowKit
set_option linter.unusedVariables false
set_option linter.unusedSimpArgs false

theorem drewK {B : Nat} {w w' : World} (h : Below B w w') : Below B w w'.drew := ⟨h.os, h.tape, h.output, h.size, h.block⟩
set_option maxHeartbeats 4000000 in
set_option maxRecDepth 100000 in
theorem forward_any (S : List Rv) (b off cap : Nat) (at_ n : Nat) (hnS : Hid (n = S.length)) (w : World) (hn : n ≤ 3000000) (hd : Hid (TabDis S)) (hO : Hid (∀ r ∈ S, RvOk w r)) (ha9 : at_ ≤ 2000000) (hbb : b < w.heap.size)
    (hc : Hid (∀ k (hk : k < S.length) j, j < 4 → w.cell? ⟨b, off + (k * 4 + j), none⟩ = (rvR S[k])[j]?)) :
    Calls Tryz.prog 75 #[.agg #[.slice (some ⟨b, off, none⟩) n cap], .int .i64 at_] w fun e w' => e = .returned (.tuple #[.int .i32 (((tabSign S at_).getD 0 : Nat) : Int), .bool (tabSign S at_).isSome]) ∧ Below w.heap.size w w' := by
  have hni : (n : Int) ≤ 3000000 := by omega
  have K := Lib.hid (((Below.refl w.heap.size w).alloc (Nat.le_refl _) (.cells #[.slice (some ⟨b, off, none⟩) n cap] 43)).alloc (by simp) (.cells #[.int .i64 at_] 3))
  have X := Lib.hid (at_a1 w #[.slice (some ⟨b, off, none⟩) n cap] 43 (.cells #[.int .i64 at_] 3))
  have F := Lib.hid (at_a2 w #[.int .i64 at_] 3 (.cells #[.slice (some ⟨b, off, none⟩) n cap] 43))
  obtain ⟨rb, hrb⟩ : ∃ rb, rb = w.heap.size := ⟨_, rfl⟩
  go_enter Tryz.func75, Tryz.ntmps75
  go_upto_region 1 with (fail)
  generalize (w.alloc (.cells #[.slice (some ⟨b, off, none⟩) n cap] 43)).alloc (.cells #[.int .i64 at_] 3) = w0 at *
  rw [← hrb] at X F
  rw [← hrb]
  have hbr : b < rb := by omega
  have HBB := Lib.hid hbb
  clear hrb hbb
  have x0 : w0.cell? ⟨rb, 0, none⟩ = some (.slice (some ⟨b, off, none⟩) n cap) := by rw [cell_at X.out]; rfl
  have f0 : w0.cell? ⟨rb + 1, 0, none⟩ = some (.int .i64 at_) := by rw [cell_at F.out]; rfl
  have hrl := (Array.getElem?_eq_some_iff.1 X.out).1
  have hfl := (Array.getElem?_eq_some_iff.1 F.out).1
  have HC0 : Hid (∀ k (hk : k < S.length) j, j < 4 → w0.cell? ⟨b, off + (k * 4 + j), none⟩ = (rvR S[k])[j]?) := Lib.hid (fun k hk j hj => (K.out.cell (p := ⟨b, _, none⟩) HBB.out).trans (hc.out k hk j hj))
  have SE := Lib.hid (search_any S b off cap (rb + 1) rb n at_ hnS.out hn (Lib.hid (fun r hr => ⟨(hO.out r hr).1, (hO.out r hr).2.1⟩)) ha9 w0 (Lib.hid f0) (Lib.hid x0) hfl hrl (by omega) HC0)
  go_upto_region 2 with (go_at_call 114; (with_reducible refine SE.out.mono ?_); rintro e w2 ⟨i, rfl, hi, h1, h2, hb2⟩; have H1 := Lib.hid h1; have H2 := Lib.hid h2; have HB2 := Lib.hid hb2; clear h1 h2 hb2 x0 f0)
  have HT := Lib.hid (tabSign_at hd.out (by rw [← hnS.out]; exact hi) H1.out H2.out)
  have K2 := Lib.hid (nextB K.out HB2.out)
  have X2 := Lib.hid (block_below X.out HB2.out)
  have F2 := Lib.hid (block_below F.out HB2.out)
  have hbw : b < w0.heap.size := by omega
  have x0 : w2.cell? ⟨rb, 0, none⟩ = some (.slice (some ⟨b, off, none⟩) n cap) := by rw [cell_at X2.out]; rfl
  have f0 : w2.cell? ⟨rb + 1, 0, none⟩ = some (.int .i64 at_) := by rw [cell_at F2.out]; rfl
  by_cases hlt : i < n
  · have hiS : i < S.length := by have := hnS.out; omega
    have e1 : ((i : Int) == (n : Int)) = false := by simp; omega
    have g1 : (i : Int) < n := by omega
    have HTi := HT.out
    rw [dif_pos hiS] at HTi
    have hcc := fun j hj => (HB2.out.cell (p := ⟨b, off + (i * 4 + j), none⟩) hbw).trans (HC0.out i hiS j hj)
    have c0 : w2.cell? ⟨b, off + i * 4, none⟩ = some (.int .i64 S[i].fr) := hcc 0 (by decide)
    have c1 : w2.cell? ⟨b, off + i * 4 + 1, none⟩ = some (.int .i64 S[i].ct) := hcc 1 (by decide)
    have c2 : w2.cell? ⟨b, off + i * 4 + 2, none⟩ = some (.int .i32 S[i].tp) := hcc 2 (by decide)
    have c3 : w2.cell? ⟨b, off + i * 4 + 3, none⟩ = some (.slice S[i].sa S[i].sg.length S[i].cp) := hcc 3 (by decide)
    have hrv := ((hO.out S[i] (List.getElem_mem hiS)).below K.out).below HB2.out
    have h3 := H1.out hiS
    clear hcc
    generalize S[i] = r at *
    have HTq := Lib.hid HTi
    have HRV := Lib.hid hrv
    clear HTi hrv HT H1 H2
    by_cases hfr : r.fr ≤ at_
    · have d2 : decide ((at_ : Int) < (r.fr : Int)) = false := decide_eq_false (by omega)
      have d3 : ¬ (at_ : Int) < (r.fr : Int) := by omega
      go_quiet (fail)
      go_upto_region 4 with (fail)
      have hlen := rwS_len HRV.out
      have hl : at_ - r.fr < (rwS r).length := by omega
      have HTs := Lib.hid (show tabSign S at_ = some ((rwS r)[at_ - r.fr]) by rw [HTq.out, if_pos hfr, List.getElem?_eq_getElem hl])
      have BW : ∀ V : World, Below w2.heap.size w2 V → RvOk V r := fun V hb => HRV.out.below hb
      have RS : Hid (∀ V : World, Below w2.heap.size w2 V → Calls Tryz.prog 69 #[.agg #[.int .i64 r.fr, .int .i64 r.ct, .int .i32 r.tp, .slice r.sa r.sg.length r.cp], .int .i64 at_] V fun e w' => e = .returned (.int .i32 ((rwS r)[at_ - r.fr] : Nat)) ∧ Below V.heap.size V w') := Lib.hid (fun V hb => by
        have h := rsign_any r (at_ - r.fr) (by omega) V (Lib.hid (BW V hb)) hl
        rw [show r.fr + (at_ - r.fr) = at_ by omega] at h
        exact h)
      have KQ := belowN K2.out nq
      have BQ := belowN (Below.refl w2.heap.size w2) nq
      have cc : (w2.drewN nq).cell? ⟨rb + 1, 0, none⟩ = some (.int .i64 at_) ∧ (w2.drewN nq).cell? ⟨rb, 0, none⟩ = some (.slice (some ⟨b, off, none⟩) n cap) ∧ (w2.drewN nq).cell? ⟨b, off + i * 4, none⟩ = some (.int .i64 r.fr) ∧ (w2.drewN nq).cell? ⟨b, off + i * 4 + 1, none⟩ = some (.int .i64 r.ct) ∧ (w2.drewN nq).cell? ⟨b, off + i * 4 + 2, none⟩ = some (.int .i32 r.tp) ∧ (w2.drewN nq).cell? ⟨b, off + i * 4 + 3, none⟩ = some (.slice r.sa r.sg.length r.cp) := ⟨f0, x0, c0, c1, c2, c3⟩
      have hz0 := HB2.out.size
      have z1 : rb + 1 < (w2.drewN nq).heap.size := by show _ < w2.heap.size; omega
      have z2 : b < (w2.drewN nq).heap.size := by show _ < w2.heap.size; omega
      have HKQ := Lib.hid KQ
      have HBQ := Lib.hid BQ
      clear KQ BQ x0 f0 c0 c1 c2 c3 HTq HRV BW
      generalize w2.drewN nq = W at *
      have HK : Hid (∀ w', Below W.heap.size W w' → w'.cell? ⟨rb + 1, 0, none⟩ = some (.int .i64 at_) ∧ w'.cell? ⟨rb, 0, none⟩ = some (.slice (some ⟨b, off, none⟩) n cap) ∧ w'.cell? ⟨b, off + i * 4, none⟩ = some (.int .i64 r.fr) ∧ w'.cell? ⟨b, off + i * 4 + 1, none⟩ = some (.int .i64 r.ct) ∧ w'.cell? ⟨b, off + i * 4 + 2, none⟩ = some (.int .i32 r.tp) ∧ w'.cell? ⟨b, off + i * 4 + 3, none⟩ = some (.slice r.sa r.sg.length r.cp)) := Lib.hid (fun w' hb => ⟨(hb.cell (p := ⟨rb + 1, 0, none⟩) z1).trans cc.1, (hb.cell (p := ⟨rb, 0, none⟩) (by show rb < _; omega)).trans cc.2.1, (hb.cell (p := ⟨b, _, none⟩) z2).trans cc.2.2.1, (hb.cell (p := ⟨b, _, none⟩) z2).trans cc.2.2.2.1, (hb.cell (p := ⟨b, _, none⟩) z2).trans cc.2.2.2.2.1, (hb.cell (p := ⟨b, _, none⟩) z2).trans cc.2.2.2.2.2⟩)
      generalize hsgn : (rwS r)[at_ - r.fr] = sgn at *
      clear hsgn
      go_region_held3 (fun w' => w'.cell? ⟨rb + 1, 0, none⟩ = some (.int .i64 at_) ∧ w'.cell? ⟨rb, 0, none⟩ = some (.slice (some ⟨b, off, none⟩) n cap) ∧ w'.cell? ⟨b, off + i * 4, none⟩ = some (.int .i64 r.fr) ∧ w'.cell? ⟨b, off + i * 4 + 1, none⟩ = some (.int .i64 r.ct) ∧ w'.cell? ⟨b, off + i * 4 + 2, none⟩ = some (.int .i32 r.tp) ∧ w'.cell? ⟨b, off + i * 4 + 3, none⟩ = some (.slice r.sa r.sg.length r.cp)) (first | exact cc | exact x1 | fail)
        (first | (go_at_call 69; (with_reducible refine (RS.out _ (by exact drewK HBQ.out)).mono ?_); rintro e w1 ⟨rfl, hb1⟩; have k1 := Lib.hid (drewBu hb1); have x1 := HK.out _ k1.out; clear hb1))
      go_wp2
      go_ret2
      exact ⟨by rw [HTs.out]; rfl, nextB HKQ.out k1.out⟩
    · have d2 : decide ((at_ : Int) < (r.fr : Int)) = true := decide_eq_true (by omega)
      go_quiet (fail)
      go_wp2
      go_ret2
      exact ⟨by rw [HTq.out, if_neg hfr]; rfl, belowN K2.out _⟩
  · have e1 : ((i : Int) == (n : Int)) = true := by simp; omega
    have HTi := HT.out
    rw [dif_neg (by have := hnS.out; omega)] at HTi
    have HTq := Lib.hid HTi
    clear HTi HT
    go_quiet (fail)
    go_wp2
    go_ret2
    exact ⟨by rw [HTq.out]; rfl, belowN K2.out _⟩
end Go.Proofs.YtffhmjlojmoomaaGreatDoor

namespace Go.Proofs.YtffhmjlojmoomaaGreatDoor
open Go.RowKit
set_option linter.unusedVariables false
set_option linter.unusedSimpArgs false

/-- what New makes of disjoint pieces: rows in order that do not touch -/
theorem tabOf_dis {L : List Pie} {S : List Rv} (hd : L.Pairwise PieDis) (hn : ∀ p ∈ L, 1 ≤ pieN p) (h : TabOf L S) : TabDis S := by
  obtain ⟨S0, hp, hl, hr, hs⟩ := h
  -- in S0 any two rows are apart
  have h0 : S0.Pairwise (fun a b => (a.fr + a.ct ≤ b.fr ∨ b.fr + b.ct ≤ a.fr) ∧ 1 ≤ a.ct ∧ 1 ≤ b.ct) := by
    rw [List.pairwise_iff_getElem]
    intro i j hi hj hij
    have e1 := hr i hi (by omega)
    have e2 := hr j hj (by omega)
    have e3 := List.pairwise_iff_getElem.1 hd i j (by omega) (by omega) hij
    have n1 := hn _ (List.getElem_mem (show i < L.length by omega))
    have n2 := hn _ (List.getElem_mem (show j < L.length by omega))
    unfold PieDis at e3
    have a1 := e1.1
    have a2 := e1.2.1
    have b1 := e2.1
    have b2 := e2.2.1
    omega
  have h1 : S.Pairwise (fun a b => (a.fr + a.ct ≤ b.fr ∨ b.fr + b.ct ≤ a.fr) ∧ 1 ≤ a.ct ∧ 1 ≤ b.ct) := by
    refine hp.symm.pairwise h0 ?_
    intro a b ⟨h, h2, h3⟩
    exact ⟨h.symm, h3, h2⟩
  unfold TabDis
  exact (List.Pairwise.and h1 hs).imp (fun ⟨⟨h, h2, h3⟩, h4⟩ => by omega)
theorem tabAt_cells {w : World} {v : Value} {S : List Rv} (h : TabAt w v S) (h1 : 1 ≤ S.length) : ∃ b off cap, v = .slice (some ⟨b, off, none⟩) S.length cap ∧ b < w.heap.size ∧ (∀ k (hk : k < S.length) j, j < 4 → w.cell? ⟨b, off + (k * 4 + j), none⟩ = (rvR S[k])[j]?) ∧ ∀ r ∈ S, RvOk w r := by
  obtain ⟨a, cap, rfl, hcap, hs, hr⟩ := h
  rcases hs.2.2 with h0 | ⟨b, off, rfl, hb, hc⟩
  · omega
  · exact ⟨b, off, cap, rfl, hb, fun k hk j hj => by rw [hc k (by simpa using hk) j hj]; simp, hr⟩
/-- Forward, at a table in memory -/
theorem forward_tab (S : List Rv) (v : Value) (a : Nat) (w : World) (h1 : 1 ≤ S.length) (hn : S.length ≤ 3000000) (ha : a ≤ 2000000) (hd : Hid (TabDis S)) (h : Hid (TabAt w v S)) :
    Calls Tryz.prog 75 #[.agg #[v], .int .i64 a] w fun e w' => e = .returned (.tuple #[.int .i32 (((tabSign S a).getD 0 : Nat) : Int), .bool (tabSign S a).isSome]) ∧ Below w.heap.size w w' := by
  obtain ⟨b, off, cap, rfl, hb, hc, hr⟩ := tabAt_cells h.out h1
  exact forward_any S b off cap a S.length (Lib.hid rfl) w hn hd (Lib.hid hr) ha hb (Lib.hid hc)
/-- codes and signs of a table that does not name a sign twice -/
theorem tabSign_some {S : List Rv} {a p : Nat} (h : tabSign S a = some p) : ∃ r ∈ S, r.fr ≤ a ∧ a < r.fr + r.ct ∧ (rwS r)[a - r.fr]? = some p := by
  unfold tabSign at h
  obtain ⟨r, hr, h⟩ := List.exists_of_findSome?_eq_some h
  split at h
  case isTrue hc => exact ⟨r, hr, hc.1, hc.2, h⟩
  case isFalse => cases h
theorem tabCode_some' {S : List Rv} {p a : Nat} (h : tabCode S p = some a) : ∃ r ∈ S, ∃ k, rwCode r p = some k ∧ a = r.fr + k := by
  unfold tabCode at h
  obtain ⟨r, hr, h⟩ := List.exists_of_findSome?_eq_some h
  rcases hk : rwCode r p with _ | k
  · rw [hk] at h; cases h
  · rw [hk] at h
    exact ⟨r, hr, k, hk, by simpa using h.symm⟩
/-- what Reverse finds, Forward reads back -/
theorem tab_back {S : List Rv} {p a : Nat} (hd : TabDis S) (hl : ∀ r ∈ S, (rwS r).length = r.ct) (h : tabCode S p = some a) : tabSign S a = some p := by
  obtain ⟨r, hr, k, hk, rfl⟩ := tabCode_some' h
  obtain ⟨hk1, hk2, -⟩ := rwCode_some hk
  have hlr := hl r hr
  obtain ⟨i, hi, rfl⟩ := List.getElem_of_mem hr
  have hp := List.pairwise_iff_getElem.1 hd
  have e := tabSign_at (a := S[i].fr + k) (i := i) hd (by omega) (fun _ => by omega) (fun hh h0 => by
    have := hp (i - 1) i hh hi (by omega)
    omega)
  rw [dif_pos hi, if_pos (by omega), show S[i].fr + k - S[i].fr = k by omega, List.getElem?_eq_getElem hk1, hk2] at e
  exact e
end Go.Proofs.YtffhmjlojmoomaaGreatDoor

namespace Go.Proofs.YtffhmjlojmoomaaGreatDoor
open Go.RowKit
set_option linter.unusedVariables false
set_option linter.unusedSimpArgs false

def tabSize (S : List Rv) : Nat := (S.map Rv.ct).sum
theorem tabSize_le (S : List Rv) (h : ∀ r ∈ S, r.ct ≤ 1048576) : tabSize S ≤ S.length * 1048576 := by
  unfold tabSize
  induction S with
  | nil => simp
  | cons r S ih =>
    have h1 := ih (fun q hq => h q (List.mem_cons_of_mem _ hq))
    have h2 := h r List.mem_cons_self
    simp only [List.map_cons, List.sum_cons, List.length_cons, Nat.succ_mul]
    omega
theorem tabSize_take (S : List Rv) (k : Nat) (hk : k < S.length) : tabSize (S.take (k + 1)) = tabSize (S.take k) + S[k].ct := by
  unfold tabSize
  rw [List.take_succ_eq_append_getElem hk, List.map_append, List.sum_append]
  simp
set_option maxHeartbeats 4000000 in
set_option maxRecDepth 100000 in
theorem tsize_any (S : List Rv) (v : Value) (w : World) (hn : S.length ≤ 3000000) (h : Hid (TabAt w v S)) :
    Calls Tryz.prog 67 #[.agg #[v]] w fun e w' => e = .returned (.int .i64 ((tabSize S : Nat) : Int)) ∧ Below w.heap.size w w' := by
  obtain ⟨a, cap, rfl, hcap, hs, hrv⟩ := h.out
  have HS := Lib.hid hs
  have HC := Lib.hid (fun r hr => (hrv r hr).2.1)
  clear h hs hrv
  have HLe : Hid (∀ k, tabSize (S.take k) ≤ 3145728000000) := Lib.hid (fun k => by
    have h1 := tabSize_le (S.take k) (fun r hr => HC.out r (List.mem_of_mem_take hr))
    have h2 : (S.take k).length ≤ S.length := by rw [List.length_take]; omega
    omega)
  have hni : (S.length : Int) ≤ 3000000 := by omega
  have K := Lib.hid ((Below.refl w.heap.size w).alloc (Nat.le_refl _) (.cells #[.slice a S.length cap] 43))
  have X := Lib.hid (at_a0 w #[.slice a S.length cap] 43)
  obtain ⟨rb, hrb⟩ : ∃ rb, rb = w.heap.size := ⟨_, rfl⟩
  go_enter Tryz.func67, Tryz.ntmps67
  go_upto_region 1 with (fail)
  generalize w.alloc (.cells #[.slice a S.length cap] 43) = w0 at *
  rw [← hrb] at X
  rw [← hrb]
  have HRB := Lib.hid hrb
  clear hrb
  have x0 : w0.cell? ⟨rb, 0, none⟩ = some (.slice a S.length cap) := by rw [cell_at X.out]; rfl
  go_wp2
  go_loopw [3, 9] (fun s i wr => ∃ k : Nat, k ≤ S.length ∧ i = .int .i64 k ∧ s = .int .i64 (tabSize (S.take k) : Nat) ∧ Hid (Below w.heap.size w wr)) (fun _ i _ => S.length - (intOf i).toNat)
  case atStart => exact ⟨0, by omega, rfl, rfl, K⟩
  case round =>
    clear X K x0
    obtain ⟨k, hk, rfl, rfl, K⟩ := hrel
    by_cases hlt : k < S.length
    · have g0 : (k : Int) < S.length := by omega
      have hRA := HS.out.below K.out
      obtain ⟨b, off, rfl, hbb, hc⟩ : ∃ b off, a = some ⟨b, off, none⟩ ∧ b < wr.heap.size ∧ ∀ j, j < 4 → wr.cell? ⟨b, off + (k * 4 + j), none⟩ = (rvR S[k])[j]? := by
        rcases hRA.2.2 with h0 | ⟨b, off, ha, hb, hc⟩
        · omega
        · exact ⟨b, off, ha, hb, fun j hj => by rw [hc k (by simpa using hlt) j hj]; simp⟩
      have c0 : wr.cell? ⟨b, off + k * 4, none⟩ = some (.int .i64 S[k].fr) := hc 0 (by decide)
      have c1 : wr.cell? ⟨b, off + k * 4 + 1, none⟩ = some (.int .i64 S[k].ct) := hc 1 (by decide)
      have c2 : wr.cell? ⟨b, off + k * 4 + 2, none⟩ = some (.int .i32 S[k].tp) := hc 2 (by decide)
      have c3 : wr.cell? ⟨b, off + k * 4 + 3, none⟩ = some (.slice S[k].sa S[k].sg.length S[k].cp) := hc 3 (by decide)
      have hct := HC.out S[k] (List.getElem_mem hlt)
      have HT := Lib.hid (tabSize_take S k hlt)
      have hle := HLe.out k
      clear hc hRA
      generalize S[k] = r at *
      generalize tabSize (S.take k) = q at *
      go_upto_region 5 with (fail)
      have hB := (Below.refl wr.heap.size wr).alloc (Nat.le_refl _) (.cells #[.int .i64 r.fr, .int .i64 r.ct, .int .i32 r.tp, .slice r.sa r.sg.length r.cp] 108)
      have R := Lib.hid (at_a0 wr #[.int .i64 r.fr, .int .i64 r.ct, .int .i32 r.tp, .slice r.sa r.sg.length r.cp] 108)
      replace K := Lib.hid (nextB K.out hB)
      clear hB c0 c1 c2 c3
      generalize wr.alloc (.cells #[.int .i64 r.fr, .int .i64 r.ct, .int .i32 r.tp, .slice r.sa r.sg.length r.cp] 108) = w1 at *
      generalize wr.heap.size = kb at *
      obtain ⟨y0, y1, y2, y3⟩ := cells4 (R.out)
      have hci : (r.ct : Int) ≤ 1048576 := by omega
      have hqi : (q : Int) ≤ 3145728000000 := by omega
      go_wp2
      exact ⟨⟨k + 1, by omega, by simp, by rw [HT.out]; simp, K⟩, by simp [intOf]; omega⟩
    · have g0 : ¬ (k : Int) < S.length := by omega
      have hd0 : S.take k = S := List.take_of_length_le (by omega)
      rw [hd0]
      clear hd0
      go_wp2
      go_ret
      exact ⟨rfl, K.out⟩
end Go.Proofs.YtffhmjlojmoomaaGreatDoor

namespace Go.Proofs.YtffhmjlojmoomaaGreatDoor
open Go.RowKit
set_option linter.unusedVariables false
set_option linter.unusedSimpArgs false

set_option maxHeartbeats 4000000 in
set_option maxRecDepth 100000 in
theorem splain_any (w : World) : Calls Tryz.prog 93 #[] w fun e w' => e = .returned (.agg #[.int .i64 0, .int .i32 0, .int .i64 128, .string ⟨#[]⟩]) ∧ Below w.heap.size w w' := by
  have SQ : Hid (∀ w, Calls Tryz.prog 42 #[.int .i64 0, .int .i32 0, .int .i64 128] w fun e w' => e = .returned (.agg #[.int .i64 0, .int .i32 0, .int .i64 128, .string ⟨#[]⟩]) ∧ Below w.heap.size w w') := Lib.hid (fun w => seq_any 0 0 128 w)
  have X := Lib.hid (at_a0 w #[.int .i64 0, .int .i32 0, .int .i64 0, .string ⟨#[]⟩] 69)
  have K := Lib.hid ((Below.refl w.heap.size w).alloc (Nat.le_refl _) (.cells #[.int .i64 0, .int .i32 0, .int .i64 0, .string ⟨#[]⟩] 69))
  go_enter Tryz.func93, Tryz.ntmps93
  go_upto_region 1 with (fail)
  obtain ⟨rb, hrb⟩ : ∃ rb, rb = w.heap.size := ⟨_, rfl⟩
  generalize w.alloc (.cells #[.int .i64 0, .int .i32 0, .int .i64 0, .string ⟨#[]⟩] 69) = w0 at *
  rw [← hrb] at X
  rw [← hrb]
  have HRB := Lib.hid hrb
  have hwr : w.heap.size ≤ rb := by rw [hrb]; exact Nat.le_refl _
  have HW := Lib.hid hwr
  clear hrb hwr
  go_upto_region 2 with (go_at_call 42; (with_reducible refine (SQ.out _).mono ?_); rintro e w1 ⟨rfl, hb1⟩; replace X := Lib.hid (block_below X.out hb1); replace K := Lib.hid (nextB K.out hb1); clear hb1; obtain ⟨x0, x1, x2, x3⟩ := cells4 (X.out); obtain ⟨xf0, xf1, xf2, xf3⟩ := frees4 (X.out))
  refine end_cell (by rfl) rfl (by rfl) (store4 X.out rfl) Tryz.underlying69 rfl (by kernel_rfl) ?_
  exact ⟨rfl, (((K.out.setCell HW.out _).setCell HW.out _).setCell HW.out _).setCell HW.out _⟩
set_option maxHeartbeats 4000000 in
set_option maxRecDepth 100000 in
theorem stable_any (a : Option Addr) (n cap : Nat) (L : List Pie) (w : World) (hs : Hid (RecsAt w a n 4 (L.map pieR))) (hcap : n ≤ cap) (hn : n ≤ 1000000) (hn1 : 1 ≤ n) (hok : Hid (∀ p ∈ L, PieOk p ∧ (p.tx ≠ [] → p.tp = 0 ∧ p.ct = 0))) (hd : Hid (L.Pairwise PieDis)) (hT : Hid (Tabs w)) :
    Calls Tryz.prog 41 #[.slice a n cap] w fun e w' => ∃ v S, e = .returned (.agg #[v]) ∧ TabIn w' w.heap.size v S ∧ TabOf L S ∧ Below w.heap.size w w' := by
  have X := Lib.hid (at_a0 w #[.slice none 0 0] 43)
  have K := Lib.hid ((Below.refl w.heap.size w).alloc (Nat.le_refl _) (.cells #[.slice none 0 0] 43))
  have NW := Lib.hid (new_any a n cap L _ (Lib.hid (hs.out.below K.out)) hcap hn hn1 hok hd (Lib.hid (hT.out.below K.out)))
  go_enter Tryz.func41, Tryz.ntmps41
  go_upto_region 1 with (fail)
  obtain ⟨rb, hrb⟩ : ∃ rb, rb = w.heap.size := ⟨_, rfl⟩
  have hz0 : rb < (w.alloc (.cells #[.slice none 0 0] 43)).heap.size := by rw [hrb]; simp
  generalize w.alloc (.cells #[.slice none 0 0] 43) = w0 at *
  rw [← hrb] at X
  rw [← hrb]
  have HRB := Lib.hid hrb
  clear hrb
  go_upto_region 2 with (go_at_call 58; (with_reducible refine NW.out.mono ?_); rintro e w1 ⟨v, S, rfl, ht, ho, hb1⟩; have HTA := Lib.hid ht; obtain ⟨⟨sv, cv, rfl, hcv, hsv, hrv⟩, -⟩ := ht; have HTO := Lib.hid ho; replace X := Lib.hid (block_below X.out hb1); replace K := Lib.hid (nextB K.out hb1); clear hcv hsv hrv ho hb1)
  have hB := ((Below.refl w1.heap.size w1).alloc (Nat.le_refl _) (.cells #[.slice sv S.length cv] 43)).alloc (by simp) (.cells #[.int .i64 0, .int .i64 0] 26)
  have R := Lib.hid (at_a1 w1 #[.slice sv S.length cv] 43 (.cells #[.int .i64 0, .int .i64 0] 26))
  replace X := Lib.hid (block_below X.out hB)
  replace K := Lib.hid (nextB K.out hB)
  replace HTA := Lib.hid (HTA.out.below hB)
  clear hB
  generalize (w1.alloc (.cells #[.slice sv S.length cv] 43)).alloc (.cells #[.int .i64 0, .int .i64 0] 26) = w2 at *
  generalize w1.heap.size = tb at *
  have r0 : w2.cell? ⟨tb, 0, none⟩ = some (.slice sv S.length cv) := by rw [cell_at R.out]; rfl
  have x0 : w2.cell? ⟨rb, 0, none⟩ = some (.slice none 0 0) := by rw [cell_at X.out]; rfl
  have xf0 : w2.frozen? ⟨rb, 0, none⟩ = false := free_at X.out
  have hrbw := HRB.out
  have HZ := Lib.hid (show w.heap.size ≤ rb by omega)
  clear hrbw
  go_wp2
  refine end_cell (by rfl) rfl (by rfl) (setCell_at (j := 0) (v := .slice sv S.length cv) X.out) Tryz.underlying43 rfl (by kernel_rfl) ?_
  exact ⟨_, S, rfl, (HTA.out.setOlder (by have := hz0; omega)).base (by have := HZ.out; omega), HTO.out, K.out.setCell HZ.out _⟩
end Go.Proofs.YtffhmjlojmoomaaGreatDoor

namespace Go.Proofs.YtffhmjlojmoomaaGreatDoor
open Go.RowKit
set_option linter.unusedVariables false
set_option linter.unusedSimpArgs false

def rowPairs (r : Rv) : List (Nat × Nat) := (List.range r.ct).map (fun k => (r.fr + k, (rwS r).getD k 0))
def tabPairs (S : List Rv) : List (Nat × Nat) := (S.map rowPairs).flatten
theorem rowPairs_len (r : Rv) : (rowPairs r).length = r.ct := by simp [rowPairs]
theorem tabPairs_len (S : List Rv) : (tabPairs S).length = tabSize S := by
  unfold tabPairs tabSize
  rw [List.length_flatten, List.map_map]
  congr 1
  apply List.map_congr_left
  intro r _
  exact rowPairs_len r
/-- codes from one on and their signs, where they have one -/
def prsFrom (f : Nat → Option Nat) (a n : Nat) : List (Nat × Nat) := (List.range' a n).filterMap (fun c => (f c).map (fun p => (c, p)))
def prs (f : Nat → Option Nat) (n : Nat) : List (Nat × Nat) := prsFrom f 0 n
theorem prsFrom_app (f : Nat → Option Nat) (a n m : Nat) : prsFrom f a (n + m) = prsFrom f a n ++ prsFrom f (a + n) m := by
  unfold prsFrom
  rw [← List.filterMap_append]
  congr 1
  have := List.range'_append (s := a) (m := n) (n := m) (step := 1)
  rw [Nat.one_mul] at this
  exact this.symm
theorem prsFrom_none (f : Nat → Option Nat) (a n : Nat) (h : ∀ c, a ≤ c → c < a + n → f c = none) : prsFrom f a n = [] := by
  unfold prsFrom
  rw [List.filterMap_eq_nil_iff]
  intro c hc
  rw [List.mem_range'] at hc
  obtain ⟨i, hi, rfl⟩ := hc
  rw [h _ (by omega) (by omega)]
  rfl
theorem prsFrom_cong {f g : Nat → Option Nat} {a n : Nat} (h : ∀ c, a ≤ c → c < a + n → f c = g c) : prsFrom f a n = prsFrom g a n := by
  unfold prsFrom
  induction n generalizing a with
  | zero => rfl
  | succ n ih =>
    rw [List.range'_succ, List.filterMap_cons, List.filterMap_cons, h a (Nat.le_refl _) (by omega), ih (fun c h1 h2 => h c (by omega) (by omega))]
theorem prsFrom_all {f : Nat → Option Nat} {a n : Nat} {s : Nat → Nat} (h : ∀ k, k < n → f (a + k) = some (s k)) : prsFrom f a n = (List.range n).map (fun k => (a + k, s k)) := by
  induction n with
  | zero => rfl
  | succ n ih =>
    rw [prsFrom_app, ih (fun k hk => h k (by omega)), List.range_succ, List.map_append]
    congr 1
    unfold prsFrom
    rw [List.range'_one, List.filterMap_cons, h n (by omega)]
    rfl
theorem tabPairs_from : ∀ (S : List Rv) (a n : Nat), TabDis S → (∀ r ∈ S, (rwS r).length = r.ct ∧ a ≤ r.fr ∧ r.fr + r.ct ≤ a + n) → tabPairs S = prsFrom (tabSign S) a n
  | [], a, n, _, _ => by
    rw [prsFrom_none (tabSign []) a n (fun c _ _ => rfl)]
    rfl
  | r :: S, a, n, hd, h => by
    obtain ⟨h1, h2⟩ := List.pairwise_cons.1 hd
    obtain ⟨hl, ha, hn⟩ := h r List.mem_cons_self
    have hS : ∀ c, r.fr + r.ct ≤ c → tabSign (r :: S) c = tabSign S c := by
      intro c hc
      unfold tabSign
      rw [List.findSome?_cons, if_neg (by omega)]
    have hr : ∀ k, k < r.ct → tabSign (r :: S) (r.fr + k) = some ((rwS r).getD k 0) := by
      intro k hk
      unfold tabSign
      rw [List.findSome?_cons, if_pos (by omega), show r.fr + k - r.fr = k by omega, List.getElem?_eq_getElem (by omega)]
      simp [hl, hk]
    have h0 : ∀ c, c < r.fr → tabSign (r :: S) c = none := by
      intro c hc
      refine tabSign_none (fun q hq => ?_)
      rcases List.mem_cons.1 hq with rfl | hq
      · omega
      · have := h1 q hq
        omega
    rw [show n = (r.fr - a) + (r.ct + (a + n - (r.fr + r.ct))) by omega, prsFrom_app, prsFrom_app, prsFrom_none _ _ _ (fun c _ hc => h0 c (by omega)), show a + (r.fr - a) = r.fr by omega, prsFrom_all hr, prsFrom_cong (g := tabSign S) (fun c hc _ => hS c hc)]
    rw [← tabPairs_from S _ _ h2 (fun q hq => ⟨(h q (List.mem_cons_of_mem _ hq)).1, h1 q hq, by have := (h q (List.mem_cons_of_mem _ hq)).2.2; omega⟩)]
    rfl
/-- what the codes of a list stand for, the later ahead of the earlier -/
def tbl (l : List (Nat × Nat)) (i : Nat) : Option Nat := l.foldl (fun o p => if p.1 = i then some p.2 else o) none
theorem tbl_snoc (l : List (Nat × Nat)) (p : Nat × Nat) (i : Nat) : tbl (l ++ [p]) i = if p.1 = i then some p.2 else tbl l i := by simp [tbl]
/-- the first code of a sign in a list -/
def fst (l : List (Nat × Nat)) (q : Nat) : Option Nat := (l.find? (fun p => p.2 == q)).map (·.1)
theorem fst_snoc (l : List (Nat × Nat)) (p : Nat × Nat) (q : Nat) : fst (l ++ [p]) q = match fst l q with | some c => some c | none => if p.2 = q then some p.1 else none := by
  unfold fst
  rw [List.find?_append]
  generalize l.find? (fun p => p.2 == q) = o
  rcases o with _ | x
  · by_cases h : p.2 = q <;> simp [h]
  · rfl
/-- the least code below n of a sign -/
def rev (f : Nat → Option Nat) (n q : Nat) : Option Nat := (List.range n).find? (fun c => f c == some q)
theorem rev_some {f : Nat → Option Nat} {n q c : Nat} (h : rev f n q = some c) : c < n ∧ f c = some q := by
  unfold rev at h
  have h1 := List.find?_some h
  have h2 := List.mem_of_find?_eq_some h
  exact ⟨by simpa using h2, by simpa using h1⟩
theorem prs_succ (f : Nat → Option Nat) (n : Nat) : prs f (n + 1) = prs f n ++ (match f n with | some p => [(n, p)] | none => []) := by
  unfold prs
  rw [prsFrom_app, Nat.zero_add]
  congr 1
  unfold prsFrom
  rw [List.range'_one, List.filterMap_cons]
  rcases f n with _ | p <;> rfl
theorem tbl_prs (f : Nat → Option Nat) : ∀ n i, tbl (prs f n) i = if i < n then f i else none
  | 0, i => rfl
  | n + 1, i => by
    rw [prs_succ]
    have ih := tbl_prs f n i
    rcases hf : f n with _ | p
    · simp only [List.append_nil]
      rw [ih]
      by_cases h : i = n
      · subst h; rw [if_neg (by omega), if_pos (by omega), hf]
      · by_cases h1 : i < n
        · rw [if_pos h1, if_pos (by omega)]
        · rw [if_neg h1, if_neg (by omega)]
    · simp only []
      rw [tbl_snoc, ih]
      by_cases h : n = i
      · subst h; rw [if_pos rfl, if_pos (by omega), hf]
      · rw [if_neg h]
        by_cases h1 : i < n
        · rw [if_pos h1, if_pos (by omega)]
        · rw [if_neg h1, if_neg (by omega)]
theorem fst_prs (f : Nat → Option Nat) (q : Nat) : ∀ n, fst (prs f n) q = rev f n q
  | 0 => rfl
  | n + 1 => by
    have ih := fst_prs f q n
    unfold rev
    rw [prs_succ, List.range_succ, List.find?_append]
    have e : (List.range n).find? (fun c => f c == some q) = rev f n q := rfl
    rw [e]
    rcases hf : f n with _ | p
    · simp only [List.append_nil]
      rw [ih]
      rcases rev f n q with _ | c
      · simp [hf]
      · rfl
    · simp only []
      rw [fst_snoc, ih]
      rcases rev f n q with _ | c
      · by_cases h : p = q <;> simp [hf, h]
      · rfl
theorem prs_mem {f : Nat → Option Nat} {n : Nat} {x : Nat × Nat} (h : x ∈ prs f n) : x.1 < n ∧ f x.1 = some x.2 := by
  unfold prs prsFrom at h
  obtain ⟨c, hc, hx⟩ := List.mem_filterMap.1 h
  rw [List.mem_range'] at hc
  obtain ⟨i, hi, rfl⟩ := hc
  obtain ⟨p, hp, rfl⟩ := Option.map_eq_some_iff.1 hx
  simp only [Nat.zero_add, Nat.one_mul] at hp ⊢
  exact ⟨hi, hp⟩
/-- one byte a sign: what bytes stand for; the bytes of signs -/
def decS (f : Nat → Option Nat) : List UInt8 → Option (List Nat)
  | [] => some []
  | b :: r => match f b.toNat, decS f r with | some p, some ps => some (p :: ps) | _, _ => none
def encS (f : Nat → Option Nat) : List Nat → Option (List UInt8)
  | [] => some []
  | p :: ps => match rev f 256 p, encS f ps with | some c, some r => some (UInt8.ofNat c :: r) | _, _ => none
theorem decS_encS (f : Nat → Option Nat) : ∀ (ps : List Nat) (b : List UInt8), encS f ps = some b → decS f b = some ps
  | [], b, h => by obtain rfl := Option.some.inj h; rfl
  | p :: ps, b, h => by
    unfold encS at h
    split at h
    case h_2 => cases h
    rename_i c r h1 h2
    obtain rfl := Option.some.inj h
    have h3 := rev_some h1
    have h4 := decS_encS f ps r h2
    unfold decS
    rw [UInt8.toNat_ofNat', Nat.mod_eq_of_lt (by omega), h3.2, h4]
end Go.Proofs.YtffhmjlojmoomaaGreatDoor

namespace Go.Proofs.YtffhmjlojmoomaaGreatDoor
open Go.RowKit
set_option linter.unusedVariables false
set_option linter.unusedSimpArgs false

def prR (x : Nat × Nat) : List Value := [.int .i64 x.1, .int .i32 x.2]
theorem one_prR (x : Nat × Nat) : ∀ u ∈ prR x, u.oneCell' = true := by
  intro u hu
  simp only [prR, List.mem_cons, List.not_mem_nil, or_false] at hu
  rcases hu with rfl | rfl <;> rfl
theorem info_pair : (Tryz.prog.info? 34).map (fun i => (i.zero, i.size, i.bytes)) = some (some (.agg #[.int .i64 0, .int .i32 0]), 2, 16) := by kernel_rfl
theorem tabPairs_take (S : List Rv) (k : Nat) (hk : k < S.length) : tabPairs (S.take (k + 1)) = tabPairs (S.take k) ++ rowPairs S[k] := by
  unfold tabPairs
  rw [List.take_succ_eq_append_getElem hk, List.map_append, List.flatten_append]
  simp
theorem rowPairs_take (r : Rv) (j : Nat) (hj : j < r.ct) (hl : (rwS r).length = r.ct) : (rowPairs r).take (j + 1) = (rowPairs r).take j ++ [(r.fr + j, (rwS r)[j]'(by omega))] := by
  have h : j < (rowPairs r).length := by rw [rowPairs_len]; exact hj
  rw [List.take_succ_eq_append_getElem h]
  have e : (rowPairs r)[j]'h = (r.fr + j, (rwS r)[j]'(by omega)) := by simp [rowPairs, hl, hj]
  rw [e]
set_option maxHeartbeats 4000000 in
set_option maxRecDepth 100000 in
theorem tpairs_any (S : List Rv) (v : Value) (w : World) (hn : S.length ≤ 3000000) (hz : tabSize S ≤ 1048576) (h : Hid (TabAt w v S)) :
    Calls Tryz.prog 29 #[.agg #[v]] w fun e w' => ∃ u, e = .returned u ∧ Recs w' w.heap.size 34 2 u ((tabPairs S).map prR) ∧ Below w.heap.size w w' := by
  obtain ⟨i0, hi, hz0, hz1, hz2⟩ := info_parts info_pair
  have TS := Lib.hid (fun w h => tsize_any S v w hn h)
  obtain ⟨a, cap, rfl, hcap, hs, hrv⟩ := h.out
  have HS := Lib.hid hs
  have HR := Lib.hid hrv
  have HLS : Hid (∀ k, (tabPairs (S.take k)).length ≤ tabSize S) := Lib.hid (fun k => by
    rw [tabPairs_len]
    unfold tabSize
    have e : (S.map Rv.ct).sum = ((S.take k).map Rv.ct).sum + ((S.drop k).map Rv.ct).sum := by rw [← List.sum_append, ← List.map_append, List.take_append_drop]
    omega)
  have HLT : Hid (∀ k (hk : k < S.length), (tabPairs (S.take k)).length + S[k].ct ≤ tabSize S) := Lib.hid (fun k hk => by
    have h1 := HLS.out (k + 1)
    rw [tabPairs_take S k hk, List.length_append, rowPairs_len] at h1
    exact h1)
  clear hs hrv
  have hni : (S.length : Int) ≤ 3000000 := by omega
  have K := Lib.hid ((Below.refl w.heap.size w).alloc (Nat.le_refl _) (.cells #[.slice a S.length cap] 43))
  have X := Lib.hid (at_a0 w #[.slice a S.length cap] 43)
  have HT := Lib.hid (h.out.below K.out)
  obtain ⟨rb, hrb⟩ : ∃ rb, rb = w.heap.size := ⟨_, rfl⟩
  go_enter Tryz.func29, Tryz.ntmps29
  go_upto_region 1 with (fail)
  generalize w.alloc (.cells #[.slice a S.length cap] 43) = w0 at *
  rw [← hrb] at X
  rw [← hrb]
  have HRB := Lib.hid hrb
  clear hrb
  have x0 : w0.cell? ⟨rb, 0, none⟩ = some (.slice a S.length cap) := by rw [cell_at X.out]; rfl
  generalize hm : tabSize S = m at *
  have HM := Lib.hid hm
  clear hm
  have hwb : w.heap.size ≤ w0.heap.size := K.out.size
  go_upto_region 2 with (first | (go_at_call 67; (with_reducible refine (TS.out _ HT).mono ?_); rintro e w1 ⟨rfl, hb1⟩; have hz1' := hb1.size; replace X := Lib.hid (block_below X.out hb1); replace K := Lib.hid (nextB K.out hb1); clear hb1 x0) | (at_make; refine wpList_make_own _ rfl _ _ 30 rfl w.heap.size 34 i0 (.agg #[.int .i64 0, .int .i32 0]) 2 Tryz.underlying30 hi hz0 hz1 _ _ _ m rfl rfl (by omega) (by rw [hz2]; omega) (by unfold maxLen; omega) (by omega) ?_; intro w4 hown hgrow; have V : Hid (Recs w4 w.heap.size 34 2 (.slice (some ⟨w1.heap.size, 0, none⟩) 0 m) []) := Lib.hid ⟨by simp, hown⟩; have KG := Lib.hid ((Below.refl w1.heap.size w1).grown hgrow (Nat.le_refl _) (by intro k hk; cases hk)); clear hown hgrow))
  replace X := Lib.hid (block_below X.out KG.out)
  replace K := Lib.hid (nextB K.out KG.out)
  clear KG HT
  have x0 : w4.cell? ⟨rb, 0, none⟩ = some (.slice a S.length cap) := by rw [cell_at X.out]; rfl
  go_wp2
  go_loopw [3, 13] (fun v i wr => ∃ k : Nat, k ≤ S.length ∧ i = .int .i64 k ∧ Hid (Recs wr w.heap.size 34 2 v ((tabPairs (S.take k)).map prR)) ∧ Hid (Below w.heap.size w wr)) (fun _ i _ => S.length - (intOf i).toNat)
  case atStart => exact ⟨0, by omega, rfl, V, K⟩
  case round =>
    clear V X K x0
    obtain ⟨k, hk, rfl, V, K⟩ := hrel
    by_cases hlt : k < S.length
    · have g0 : (k : Int) < S.length := by omega
      have hRA := HS.out.below K.out
      obtain ⟨b, off, rfl, hbb, hc⟩ : ∃ b off, a = some ⟨b, off, none⟩ ∧ b < wr.heap.size ∧ ∀ j, j < 4 → wr.cell? ⟨b, off + (k * 4 + j), none⟩ = (rvR S[k])[j]? := by
        rcases hRA.2.2 with h0 | ⟨b, off, ha, hb, hc⟩
        · omega
        · exact ⟨b, off, ha, hb, fun j hj => by rw [hc k (by simpa using hlt) j hj]; simp⟩
      have c0 : wr.cell? ⟨b, off + k * 4, none⟩ = some (.int .i64 S[k].fr) := hc 0 (by decide)
      have c1 : wr.cell? ⟨b, off + k * 4 + 1, none⟩ = some (.int .i64 S[k].ct) := hc 1 (by decide)
      have c2 : wr.cell? ⟨b, off + k * 4 + 2, none⟩ = some (.int .i32 S[k].tp) := hc 2 (by decide)
      have c3 : wr.cell? ⟨b, off + k * 4 + 3, none⟩ = some (.slice S[k].sa S[k].sg.length S[k].cp) := hc 3 (by decide)
      have RW := Lib.hid (HR.out S[k] (List.getElem_mem hlt))
      have HT := Lib.hid (tabPairs_take S k hlt)
      have hle := HLT.out k hlt
      clear hc hRA
      generalize S[k] = r at *
      generalize tabPairs (S.take k) = L0 at *
      go_upto_region 5 with (fail)
      have hB := (Below.refl wr.heap.size wr).alloc (Nat.le_refl _) (.cells #[.int .i64 r.fr, .int .i64 r.ct, .int .i32 r.tp, .slice r.sa r.sg.length r.cp] 108)
      have R := Lib.hid (at_a0 wr #[.int .i64 r.fr, .int .i64 r.ct, .int .i32 r.tp, .slice r.sa r.sg.length r.cp] 108)
      replace K := Lib.hid (nextB K.out hB)
      replace V := Lib.hid (V.out.below hB)
      clear hB c0 c1 c2 c3
      generalize wr.alloc (.cells #[.int .i64 r.fr, .int .i64 r.ct, .int .i32 r.tp, .slice r.sa r.sg.length r.cp] 108) = w1 at *
      generalize wr.heap.size = kb at *
      obtain ⟨y0, y1, y2, y3⟩ := cells4 (R.out)
      have hfr := RW.out.1
      have hct := RW.out.2.1
      have HLR := Lib.hid (rwS_len RW.out)
      have RE := Lib.hid (fun w => rend_any r w hfr hct)
      obtain ⟨en, hen⟩ : ∃ en, en = r.fr + r.ct := ⟨_, rfl⟩
      rw [← hen] at RE
      have HEN := Lib.hid hen
      clear hen
      go_wp2
      go_loopw [3, 6] (fun v q wr => ∃ j c : Nat, j ≤ r.ct ∧ c = r.fr + j ∧ q = .int .i64 c ∧ Hid (Recs wr w.heap.size 34 2 v ((L0 ++ (rowPairs r).take j).map prR)) ∧ Hid (wr.heap[kb]? = some (.cells #[.int .i64 r.fr, .int .i64 r.ct, .int .i32 r.tp, .slice r.sa r.sg.length r.cp] 108 (0, 0))) ∧ Hid (Below w.heap.size w wr)) (fun _ q _ => r.fr + r.ct - (intOf q).toNat)
      case atStart => exact ⟨0, r.fr, by omega, by omega, rfl, Lib.hid (by rw [List.take_zero, List.append_nil]; exact V.out), R, K⟩
      case round =>
        clear V R K y0 y1 y2 y3
        obtain ⟨j, c, hj, hcj, rfl, V, R, K⟩ := hrel
        obtain ⟨y0, y1, y2, y3⟩ := cells4 (R.out)
        have hene := HEN.out
        by_cases hjl : j < r.ct
        · have g1 : (c : Int) < en := by omega
          have hl : j < (rwS r).length := by rw [HLR.out]; exact hjl
          have RS : Hid (∀ w, Hid (RvOk w r) → Calls Tryz.prog 69 #[.agg #[.int .i64 r.fr, .int .i64 r.ct, .int .i32 r.tp, .slice r.sa r.sg.length r.cp], .int .i64 c] w fun e w' => e = .returned (.int .i32 ((rwS r)[j] : Nat)) ∧ Below w.heap.size w w') := Lib.hid (fun w h => by rw [hcj]; exact rsign_any r j hjl w h hl)
          have HTK := Lib.hid (rowPairs_take r j hjl HLR.out)
          have hlen : ((L0 ++ (rowPairs r).take j).map prR).length ≤ 1048576 := by
            rw [List.length_map, List.length_append, List.length_take, rowPairs_len]
            omega
          have HCJ := Lib.hid hcj
          have hc9 : (c : Int) ≤ 3000000 := by omega
          have hcr : r.fr + r.ct - (c + 1) < r.fr + r.ct - c := by omega
          clear hcj hene
          have hwb2 : w.heap.size ≤ wr.heap.size := K.out.size
          generalize (rwS r)[j] = p at *
          go_upto_region 8 with (go_at_call 68; (with_reducible refine (RE.out _).mono ?_); rintro e w2 ⟨rfl, hb2⟩; replace V := Lib.hid (V.out.below hb2); replace R := Lib.hid (block_below R.out hb2); replace K := Lib.hid (nextB K.out hb2); have hz2' := hb2.size; clear hb2 y0 y1 y2 y3)
          obtain ⟨y0, y1, y2, y3⟩ := cells4 (R.out)
          go_wp2_with (first | (go_at_call 69; (with_reducible refine (RS.out _ (Lib.hid (RW.out.below K.out))).mono ?_); rintro e w3 ⟨rfl, hb3⟩; replace V := Lib.hid (V.out.below hb3); replace R := Lib.hid (block_below R.out hb3); replace K := Lib.hid (nextB K.out hb3); have hz3' := hb3.size; clear hb3 y0 y1 y2 y3) | (at_builtin; refine wpList_pushR w3 rfl (.tmp 25) (.tmp 31) 30 rfl w.heap.size 34 2 16 _ Tryz.underlying30 info_pair rfl (by decide) (by decide) _ ((L0 ++ (rowPairs r).take j).map prR) (prR (c, p)) _ (by rfl) rfl (one_prR _) (by rfl) V.out (by rfl) (by omega) (by omega) _ ?_; intro v5 w5 hr5 hg5; have hl5 := V.out.lt; have V5 := Lib.hid hr5; have R5 := Lib.hid ((hg5.block kb (Array.getElem?_eq_some_iff.1 R.out).1 (fun e => recs_off V.out R.out (by decide) e.symm)).trans R.out); have K5 := Lib.hid (pk_grown K.out hg5 (fun k e => (hl5 k e).1) (by omega)); clear hl5 hr5 hg5))
          exact ⟨⟨j + 1, c + 1, by omega, by rw [HCJ.out]; omega, by simp, Lib.hid (by rw [HTK.out, ← List.append_assoc, List.map_append, ← HCJ.out]; exact V5.out), R5, K5⟩, by simp [intOf]; omega⟩
        · have g1 : ¬ (c : Int) < en := by omega
          have hjc : j = r.ct := by omega
          have HV2 : Hid (L0 ++ (rowPairs r).take j = tabPairs (S.take (k + 1))) := Lib.hid (by rw [HT.out, hjc, List.take_of_length_le (by rw [rowPairs_len]; omega)])
          rw [HV2.out] at V
          clear hcj hene
          go_wp2_with (go_at_call 68; (with_reducible refine (RE.out _).mono ?_); rintro e w2 ⟨rfl, hb2⟩; replace V := Lib.hid (V.out.below hb2); replace K := Lib.hid (nextB K.out hb2); clear hb2 y0 y1 y2 y3)
          exact ⟨⟨k + 1, by omega, by simp, V, K⟩, by simp [intOf]; omega⟩
    · have g0 : ¬ (k : Int) < S.length := by omega
      have hd0 : S.take k = S := List.take_of_length_le (by omega)
      rw [hd0] at V
      clear hd0
      go_wp2
      go_ret
      exact ⟨_, rfl, V.out, K.out⟩
end Go.Proofs.YtffhmjlojmoomaaGreatDoor
