/- Subtitles (srt): Same, Fault; the statements' example; plain laws. -/
import Derived.Test.YtemiegbgnpcbiaaSrt5
namespace Go.Proofs.Ytemiegbgnpcbiaa
open Go.RowKit
set_option linter.unusedVariables false

set_option maxRecDepth 100000 in
theorem fault23_any (a : Int) (w : World) : Calls Try.prog 25 #[.int .i64 a] w fun e w' => e = .returned (if a < 0 then .agg #[.int .i64 0, .int .i64 0] else .agg #[.int .i64 1, .int .i64 a]) ∧ Below w.heap.size w w' := by
  by_cases h : a < 0
  · rw [if_pos h]
    go_enter Try.func25, Try.ntmps25
    go_wp2
    exact end_cell rfl rfl rfl (at_a0 _ _ _) Try.underlying42 rfl (by kernel_rfl) ⟨rfl, (Below.refl _ _).alloc (Nat.le_refl _) _⟩
  · rw [if_neg h]
    go_enter Try.func25, Try.ntmps25
    go_wp2
    exact end_cell rfl rfl rfl (at_a0 _ _ _) Try.underlying42 rfl (by kernel_rfl) ⟨rfl, (Below.refl _ _).alloc (Nat.le_refl _) _⟩

theorem pcs_at {w : World} {base e : Nat} {v : Value} {L : List Pc} (h : Recs w base e 3 v (L.map pcR)) : ∃ a cap, v = .slice a L.length cap ∧ L.length ≤ cap ∧ PcsAt w a L.length L := by
  obtain ⟨a, cap, hv, hc, hr⟩ := h.at
  rw [List.length_map] at hv hc hr
  exact ⟨a, cap, hv, hc, hr⟩
theorem PcsAt.below {w w' : World} {a : Option Addr} {n : Nat} {L : List Pc} (h : PcsAt w a n L) (hb : Below w.heap.size w w') : PcsAt w' a n L := RecsAt.below h hb
theorem PcsAt.nil (w : World) : PcsAt w none 0 [] := ⟨rfl, by simp, .inl rfl⟩

set_option maxHeartbeats 2000000 in
set_option maxRecDepth 100000 in
theorem same_any (a1 a2 : Option Addr) (n cap1 cap2 : Nat) (L : List Pc) (w : World) (h1 : PcsAt w a1 n L) (h2 : PcsAt w a2 n L) (hn : n ≤ 1000000) :
    Calls Try.prog 26 #[.slice a1 n cap1, .slice a2 n cap2] w fun e w' => e = .returned (.bool true) ∧ Below w.heap.size w w' := by
  have hl := h1.len
  have HX0 := Lib.hid h1
  have HY0 := Lib.hid h2
  have hnn : ((n : Int) != n) = false := by simp
  clear h1 h2
  go_enter Try.func26, Try.ntmps26
  go_wp2
  go_loopw [14] (fun i wr => ∃ (k : Nat), k ≤ n ∧ i = .int .i64 k ∧ Hid (Below w.heap.size w wr)) (fun i _ => n - (intOf i).toNat)
  case atStart => exact ⟨0, by omega, rfl, Lib.hid (Below.refl _ _)⟩
  case round =>
    obtain ⟨k, hk, rfl, HB⟩ := hrel
    by_cases hlt : k < n
    · have h0 : (k : Int) < n := by omega
      have hkl : k < L.length := by omega
      obtain ⟨b1, o1, rfl, hb1, hc1⟩ := (HX0.out.below HB.out).at (by omega)
      obtain ⟨c0, c1, c2⟩ := hc1 k hkl
      have hal : Below wr.heap.size wr (wr.alloc (.cells #[.bool L[k].m, .string ⟨L[k].n.toArray⟩, .string ⟨L[k].t.toArray⟩] 34)) := (Below.refl _ _).alloc (Nat.le_refl _) _
      obtain ⟨b2, o2, rfl, hb2, hc2⟩ := ((HY0.out.below HB.out).below hal).at (by omega)
      obtain ⟨d0, d1, d2⟩ := hc2 k hkl
      have hbxc := at_a0 wr #[.bool L[k].m, .string ⟨L[k].n.toArray⟩, .string ⟨L[k].t.toArray⟩] 34
      have e0 := cell_at (j := 0) hbxc
      have e1 := cell_at (j := 1) hbxc
      have e2 := cell_at (j := 2) hbxc
      simp only [List.getElem?_toArray, List.getElem?_cons_zero, List.getElem?_cons_succ] at e0 e1 e2
      have HB2 := Lib.hid (nextB HB.out hal)
      have hm : (L[k].m != L[k].m) = false := by simp
      clear hbxc hal hc1 hc2
      go_upto_region 6 with (fail)
      generalize wr.alloc (.cells #[.bool L[k].m, .string ⟨L[k].n.toArray⟩, .string ⟨L[k].t.toArray⟩] 34) = V at *
      generalize wr.heap.size = xb at *
      generalize L[k].m = pm at *
      generalize L[k].n = pn at *
      generalize L[k].t = pt at *
      go_quiet (fail)
      go_wp2
      exact ⟨⟨k + 1, by omega, by simp, Lib.hid (below_drewN HB2.out _)⟩, by simp [intOf]; omega⟩
    · have h0 : ¬ (k : Int) < n := by omega
      go_wp2
      go_ret
      exact ⟨rfl, HB.out⟩

/-- the pieces are the text -/
def pcsT (L : List Pc) : List UInt8 := (L.map (·.t)).flatten
theorem pcsT_append (a b : List Pc) : pcsT (a ++ b) = pcsT a ++ pcsT b := by simp [pcsT]
theorem step_text (st cnt : Nat) (s : List UInt8) (r : Nat × Nat × List Pc) (h : stepS st cnt s = some r) : pcsT r.2.2 = s := by
  unfold stepS at h
  split at h
  · split at h
    · cases h; simp [pcsT, markL]
    · cases h
  · split at h
    · cases h; rename_i h2; subst h2; rfl
    · split at h
      · cases h; simp [pcsT, sayP]
      · split at h
        · cases h; simp [pcsT, markL]
        · cases h
theorem endP_text (e : List UInt8) : pcsT (endP e) = e := by
  unfold endP
  split
  · rename_i h; subst h; rfl
  · simp [pcsT, markL]
theorem walk_text : ∀ (L : List Ln) (st cnt : Nat) (acc : List Pc) (st' cnt' : Nat) (acc' : List Pc), walkS L st cnt acc = .ok (st', cnt', acc') → pcsT acc' = pcsT acc ++ lnAll L
  | [], st, cnt, acc, st', cnt', acc', h => by
    rw [walkS] at h
    injection h with h
    cases h
    simp [lnAll]
  | x :: r, st, cnt, acc, st', cnt', acc', h => by
    rw [walkS] at h
    rcases hS : stepS st cnt x.t with _ | ⟨s1, c1, ps⟩
    · rw [hS] at h; cases h
    · rw [hS] at h
      have := walk_text r s1 c1 _ _ _ _ h
      rw [this, pcsT_append, pcsT_append, step_text _ _ _ _ hS, endP_text]
      simp [lnAll]
theorem read_text (t : List UInt8) (cnt : Nat) (acc : List Pc) (h : readS t = .ok (cnt, acc)) : pcsT acc = t := by
  unfold readS at h
  split at h
  · cases h
  · rename_i st c a hw
    split at h
    · cases h
    · injection h with h
      cases h
      have := walk_text _ _ _ _ _ _ _ hw
      rw [this, (lines_ok t.length t 0 (Nat.le_refl _)).1]
      rfl
theorem walk_count : ∀ (L : List Ln) (st cnt : Nat) (acc : List Pc) (st' cnt' : Nat) (acc' : List Pc), walkS L st cnt acc = .ok (st', cnt', acc') → acc'.length ≤ acc.length + 2 * L.length
  | [], st, cnt, acc, st', cnt', acc', h => by
    rw [walkS] at h
    injection h with h
    cases h
    simp
  | x :: r, st, cnt, acc, st', cnt', acc', h => by
    rw [walkS] at h
    rcases hS : stepS st cnt x.t with _ | ⟨s1, c1, ps⟩
    · rw [hS] at h; cases h
    · rw [hS] at h
      have h1 := walk_count r s1 c1 _ _ _ _ h
      have h2 : ps.length ≤ 1 := by
        unfold stepS at hS
        repeat' split at hS
        all_goals (first | (cases hS; done) | (cases hS; simp))
      have h3 : (endP x.e).length ≤ 1 := by unfold endP; split <;> simp
      simp only [List.length_append, List.length_cons] at h1 ⊢
      omega
theorem read_count (t : List UInt8) (cnt : Nat) (acc : List Pc) (h : readS t = .ok (cnt, acc)) : acc.length ≤ 2 * t.length := by
  unfold readS at h
  split at h
  · cases h
  · rename_i st c a hw
    split at h
    · cases h
    · injection h with h
      cases h
      have h1 := walk_count _ _ _ _ _ _ _ hw
      have h2 := lines_count t.length t 0 (Nat.le_refl _)
      simp at h1
      omega

def exT : List UInt8 := [49, 10, 48, 48, 58, 48, 48, 58, 48, 49, 44, 48, 48, 48, 32, 45, 45, 62, 32, 48, 48, 58, 48, 48, 58, 48, 50, 44, 48, 48, 48, 10, 97]
theorem ex_read : ∃ p0 p1 p2 p3, readS exT = .ok (1, [p0, p1, p2, p3, sayP [97]]) := ⟨markL [49], markL [10], markL [48, 48, 58, 48, 48, 58, 48, 49, 44, 48, 48, 48, 32, 45, 45, 62, 32, 48, 48, 58, 48, 48, 58, 48, 50, 44, 48, 48, 48], markL [10], by kernel_rfl⟩

set_option maxHeartbeats 2000000 in
set_option maxRecDepth 100000 in
theorem awake24 (w : World) : Calls Try.prog 36 #[] w fun e w' => e = .returned (.bool true) ∧ Below w.heap.size w w' := by
  have hr := fun w => sparse_any exT w (by decide)
  unfold ParseSays at hr
  obtain ⟨p0, p1, p2, p3, he⟩ := ex_read
  rw [he] at hr
  simp only at hr
  have HR := Lib.hid hr
  clear hr he
  unfold exT at HR
  go_enter Try.func36, Try.ntmps36
  go_upto_region 2 with (go_at_call 23; refine (HR.out _).mono ?_; rintro e w1 ⟨v, rfl, hr1, hb1⟩; obtain ⟨a, cap, rfl, hcap, hp⟩ := pcs_at hr1)
  have hal : Below w1.heap.size w1 (w1.alloc (.cells #[.int .i64 0, .int .i64 0] 42)) := (Below.refl _ _).alloc (Nat.le_refl _) _
  have HP := Lib.hid (hp.below hal)
  have hfx := at_a0 w1 #[.int .i64 0, .int .i64 0] 42
  have HB1 := Lib.hid (nextB hb1 hal)
  generalize w1.alloc (.cells #[.int .i64 0, .int .i64 0] 42) = V at *
  generalize w1.heap.size = xb at *
  clear hr1 hb1 hp hal HR
  go_wp2_with (first | (go_at_call 30; refine (awake22 _).mono ?_; rintro e w2 ⟨rfl, hb2⟩; have HB2 := Lib.hid (nextB HB1.out hb2); obtain ⟨b, o, rfl, hb, hc⟩ := (HP.out.below hb2).at (by simp); obtain ⟨c0, c1, c2⟩ := hc 4 (by simp); have hf2 := block_below hfx hb2; have d0 := cell_at (j := 0) hf2; have d1 := cell_at (j := 1) hf2; simp only [List.getElem?_toArray, List.getElem?_cons_zero, List.getElem?_cons_succ, List.getElem_cons_zero, List.getElem_cons_succ, sayP] at c0 c1 c2 d0 d1) | (go_at_call 29; refine (bad_any _ _ _).mono ?_; rintro e w3 ⟨rfl, hb3⟩; have HB3 := Lib.hid (nextB HB2.out hb3)))
  go_ret
  exact ⟨rfl, HB3.out⟩
set_option maxRecDepth 100000 in
theorem awake24' (w : World) : Calls Try.prog 22 #[] w fun e w' => e = .returned (.bool true) ∧ Below w.heap.size w w' := by
  go_enter Try.func22, Try.ntmps22
  go_wp2_with (go_at_call 36; refine (awake24 _).mono ?_; rintro e w1 ⟨rfl, hb1⟩)
  go_ret
  exact ⟨rfl, hb1⟩
end Go.Proofs.Ytemiegbgnpcbiaa
