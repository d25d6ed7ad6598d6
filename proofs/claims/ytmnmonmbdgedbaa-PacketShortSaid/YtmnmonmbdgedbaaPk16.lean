/- Layer 18 (packet): the law of joins, walked. -/
import Derived.Test.YtmnmonmbdgedbaaPk13
import Derived.Test.YtmnmonmbdgedbaaPk9
import Derived.Test.YtmnmonmbdgedbaaPk6
import Derived.Test.YtmnmonmbdgedbaaPage12
namespace Go.Proofs.Ytmnmonmbdgedbaa
open Go.RowKit
set_option linter.unusedVariables false
set_option linter.unusedSimpArgs false

def p_len (l : List UInt8) : Prop := l.length ≤ maxLen
theorem join_bad : ∀ (ps : List Pg) (i : Nat) (acc : List (List UInt8)) (part : List UInt8) (op : Bool) (k : Nat), (joinS ps i acc part op).2 = (1, (k : Int)) → (joinS ps i acc part op).1 = []
  | [], i, acc, part, op, k, h => by
    rw [joinS] at h ⊢
    split at h
    · rename_i e; rw [if_pos e]
    · cases h
  | p :: ps, i, acc, part, op, k, h => by
    rw [joinS] at h ⊢
    split at h
    · rename_i e; rw [if_pos e]
    · rename_i e
      rw [if_neg e]
      exact join_bad ps _ _ _ _ k h
theorem lcs_acc (body : List UInt8) : ∀ (l : List UInt8) (s : Lc), (l.foldl (lcStep body) s).acc.length ≤ s.acc.length + l.length
  | [], s => by simp
  | c :: l, s => by
    rw [List.foldl_cons, List.length_cons]
    have h := lcs_acc body l (lcStep body s c)
    have h2 : (lcStep body s c).acc.length ≤ s.acc.length + 1 := by
      unfold lcStep
      split
      · exact Nat.le_succ _
      · show (s.acc ++ [_]).length ≤ _
        rw [List.length_append]
        exact Nat.le_refl _
    omega
theorem join_count (M : Nat) : ∀ (ps : List Pg) (i : Nat) (acc : List (List UInt8)) (part : List UInt8) (op : Bool), (∀ p ∈ ps, p.la.length ≤ M) → (joinS ps i acc part op).1.length ≤ acc.length + M * ps.length
  | [], i, acc, part, op, _ => by
    rw [joinS]
    split
    · simp
    · simp
  | p :: ps, i, acc, part, op, h => by
    rw [joinS]
    split
    · simp
    · have h1 := join_count M ps (i + 1) (lcs p.bo p.la acc part).acc (partL p.bo (lcs p.bo p.la acc part)) (opensB p.la op) (fun q hq => h q (List.mem_cons_of_mem _ hq))
      have h2 := lcs_acc p.bo p.la ⟨acc, part, 0, 0⟩
      have h3 : (lcs p.bo p.la acc part).acc.length ≤ acc.length + p.la.length := h2
      have h4 := h p List.mem_cons_self
      rw [List.length_cons, Nat.mul_succ]
      omega
theorem keep2 {V W w : World} {b : Nat} {v0 v1 : Value} (hb : Below V.heap.size V W) (k : Below W.heap.size W w) (hx : b < V.heap.size) (h : V.cell? ⟨b, 0, none⟩ = some v0 ∧ V.cell? ⟨b, 1, none⟩ = some v1) :
    w.cell? ⟨b, 0, none⟩ = some v0 ∧ w.cell? ⟨b, 1, none⟩ = some v1 := by
  have hb2 := nextB hb k
  have e : ∀ j, w.cell? ⟨b, j, none⟩ = V.cell? ⟨b, j, none⟩ := fun j => hb2.cell (p := ⟨b, j, none⟩) hx
  rw [e, e]
  exact h
set_option maxRecDepth 100000 in
theorem pjoins_over (a : Option Addr) (n cap : Nat) (w : World) (hn : (20 : Int) < n) :
    Calls Try.prog 9 #[.slice a n cap] w fun e w' => e = .returned (.bool true) ∧ Below w.heap.size w w' := by
  have AW := Lib.hid awake18'
  go_enter Try.func9, Try.ntmps9
  go_wp2_with (go_at_call 32; (with_reducible refine (AW.out _).mono ?_); rintro e w3 ⟨rfl, hb3⟩)
  go_ret
  exact ⟨rfl, hb3⟩
set_option maxHeartbeats 4000000 in
set_option maxRecDepth 100000 in
theorem pjoins_in (a : Option Addr) (n cap : Nat) (ps : List Pg) (w : World) (hs : Hid (RecsAt w a n 6 (ps.map pgR))) (hn : n ≤ 20) (hok : Hid (∀ p ∈ ps, p.Ok ∧ p.la.length ≤ maxLen ∧ p.bo.length ≤ maxLen)) :
    Calls Try.prog 9 #[.slice a n cap] w fun e w' => e = .returned (.bool true) ∧ Below w.heap.size w w' := by
  have AW := Lib.hid awake18'
  have HL : Hid (ps.length = n) := Lib.hid (by simpa using hs.out.1)
  have hni : (n : Int) ≤ 20 := by omega
  have hnj : ¬ (20 : Int) < n := by omega
  go_enter Try.func9, Try.ntmps9
  go_upto_region 4 with (fail)
  go_loopw [15] (fun i wr => ∃ (j : Nat), j ≤ n ∧ i = .int .i64 j ∧ Hid (∀ p ∈ ps.take j, p.la.length ≤ 300 ∧ p.bo.length ≤ 3000) ∧ Hid (Below w.heap.size w wr)) (fun i _ => n - (intOf i).toNat)
  case atStart => exact ⟨0, by omega, rfl, Lib.hid (by simp), Lib.hid (Below.refl _ _)⟩
  case round =>
    obtain ⟨j, hj, rfl, HB, K⟩ := hrel
    have S := Lib.hid (hs.out.below K.out)
    by_cases hlt : j < n
    · have g0 : (j : Int) < n := by omega
      have hjl : j < ps.length := by rw [HL.out]; exact hlt
      obtain ⟨b, off, rfl, hbb, c0, c1, c2, c3, c4, c5⟩ := pk_cells S.out j hjl
      have HT := Lib.hid (List.take_succ_eq_append_getElem hjl)
      have hmx := hok.out ps[j] (List.getElem_mem hjl)
      have hm1 : p_len ps[j].la := hmx.2.1
      have hm2 : p_len ps[j].bo := hmx.2.2
      unfold p_len at hm1 hm2
      clear hmx
      generalize ps[j] = p at *
      go_upto_region 6 with (fail)
      have P := Lib.hid (at_a0 wr #[.int .u8 p.fl.toNat, .int .u64 p.po, .int .u32 p.se, .int .u32 p.nu, .string ⟨p.la.toArray⟩, .string ⟨p.bo.toArray⟩] 66)
      have hB := (Below.refl wr.heap.size wr).alloc (Nat.le_refl _) (.cells #[.int .u8 p.fl.toNat, .int .u64 p.po, .int .u32 p.se, .int .u32 p.nu, .string ⟨p.la.toArray⟩, .string ⟨p.bo.toArray⟩] 66)
      replace K := Lib.hid (nextB K.out hB)
      clear hB S c0 c1 c2 c3 c4 c5
      generalize wr.alloc (.cells #[.int .u8 p.fl.toNat, .int .u64 p.po, .int .u32 p.se, .int .u32 p.nu, .string ⟨p.la.toArray⟩, .string ⟨p.bo.toArray⟩] 66) = w1 at *
      generalize wr.heap.size = pb at *
      obtain ⟨x0, x1, x2, x3, x4, x5⟩ := cells6 (P.out)
      by_cases h1 : (300 : Int) < p.la.length
      · have t1 : decide ((300 : Int) < p.la.length) = true := decide_eq_true h1
        go_wp2_with (go_at_call 32; (with_reducible refine (AW.out _).mono ?_); rintro e w3 ⟨rfl, hb3⟩; replace K := Lib.hid (nextB K.out hb3); clear hb3)
        go_ret
        exact ⟨rfl, K.out⟩
      · by_cases h2 : (3000 : Int) < p.bo.length
        · have t1 : decide ((300 : Int) < p.la.length) = false := decide_eq_false h1
          have t2 : decide ((3000 : Int) < p.bo.length) = true := decide_eq_true h2
          go_wp2_with (go_at_call 32; (with_reducible refine (AW.out _).mono ?_); rintro e w3 ⟨rfl, hb3⟩; replace K := Lib.hid (nextB K.out hb3); clear hb3)
          go_ret
          exact ⟨rfl, K.out⟩
        · have t1 : decide ((300 : Int) < p.la.length) = false := decide_eq_false h1
          have t2 : decide ((3000 : Int) < p.bo.length) = false := decide_eq_false h2
          have HB2 : Hid (∀ q ∈ ps.take (j + 1), q.la.length ≤ 300 ∧ q.bo.length ≤ 3000) := Lib.hid (by
            intro q hq
            rw [HT.out, List.mem_append] at hq
            rcases hq with hq | hq
            · exact HB.out q hq
            · rw [List.mem_singleton] at hq
              subst hq
              omega)
          go_wp2
          exact ⟨⟨j + 1, by omega, by simp, HB2, K⟩, by simp [intOf]; omega⟩
    · have g0 : ¬ (j : Int) < n := by omega
      have hf : ps.take j = ps := List.take_of_length_le (by rw [HL.out]; omega)
      rw [hf] at HB
      clear hf
      have PJ := Lib.hid (fun w' h => pjoin_any a n cap ps w' h (by omega) (Lib.hid (fun p hp => by have := HB.out p hp; omega)))
      have OF := Lib.hid (fun w' h => pof_any a n cap ps w' h (by omega) (Lib.hid (fun p hp => (hok.out p hp).1)))
      have RJ := Lib.hid (fun a' cap' w' h => rpjoin_any a' n cap' ps w' h (by omega) (Lib.hid (fun p hp => by have := HB.out p hp; omega)))
      have hrj := rjoin_join ps 0 [] [] false
      have hbd := join_bad ps 0 [] [] false
      have hct := join_count 300 ps 0 [] [] false (fun p hp => (HB.out p hp).1)
      rw [HL.out] at hct
      generalize hr2 : rjoinS ps 0 [] [] false = r2 at *
      generalize hr1 : joinS ps 0 [] [] false = r1 at *
      obtain ⟨L1, c, q⟩ := r1
      obtain ⟨L2, q2⟩ := r2
      clear hr1 hr2
      simp only at hrj hbd hct PJ RJ
      obtain ⟨rfl, hrj⟩ := hrj
      have HRJ := Lib.hid hrj
      have HBD := Lib.hid hbd
      clear hrj hbd
      go_upto_region 10 with (go_at_call 36; (with_reducible refine (PJ.out _ S).mono ?_); rintro e w1 ⟨u1, rfl, hr1, hb1⟩; have V := Lib.hid hr1; replace K := Lib.hid (nextB K.out hb1); replace S := Lib.hid (S.out.below hb1); clear hb1 hr1)
      have F := Lib.hid (at_a0 w1 #[.int .i64 c, .int .i64 q] 31)
      have hB := (Below.refl w1.heap.size w1).alloc (Nat.le_refl _) (.cells #[.int .i64 c, .int .i64 q] 31)
      replace V := Lib.hid (V.out.below hB)
      replace S := Lib.hid (S.out.below hB)
      replace K := Lib.hid (nextB K.out hB)
      clear hB
      generalize w1.alloc (.cells #[.int .i64 c, .int .i64 q] 31) = w2 at *
      generalize w1.heap.size = fb at *
      go_upto_region 11 with (first | (go_at_call 38; (with_reducible refine (OF.out _ S).mono ?_); rintro e w3 ⟨u3, rfl, hr3, hb3⟩; replace F := Lib.hid (block_below F.out hb3); replace V := Lib.hid (V.out.below hb3); replace K := Lib.hid (nextB K.out hb3); obtain ⟨a3, cap3, hu3, _, hat3⟩ := hr3.at; rw [List.length_map, HL.out] at hu3 hat3; subst hu3; have S3 := Lib.hid hat3; clear hb3 hr3 hat3) | (go_at_call 37; (with_reducible refine (RJ.out _ _ _ S3).mono ?_); rintro e w4 ⟨u4, rfl, hr4, hb4⟩; replace F := Lib.hid (block_below F.out hb4); replace V := Lib.hid (V.out.below hb4); replace K := Lib.hid (nextB K.out hb4); have U := Lib.hid hr4; clear hb4 hr4))
      obtain ⟨a5, n5, cap5, hu5, hn5, hcap5, hst5⟩ := strs_of V.out
      obtain ⟨a6, n6, cap6, hu6, hn6, hcap6, hst6⟩ := strs_of U.out
      subst hu5
      subst hu6
      subst hn5
      subst hn6
      clear S3 OF PJ RJ V U hs
      rcases HRJ.out with ⟨he, rfl⟩ | ⟨k, he, rfl⟩
      · obtain ⟨rfl, rfl⟩ : c = 0 ∧ q = 0 := by simpa using he
        clear he HRJ HBD
        have BD := Lib.hid (fun w => bad_any 0 0 w)
        rw [show ((0 : Int) != 0) = false by rfl] at BD
        have A5 := Lib.hid hst5
        have A6 := Lib.hid hst6
        clear hst5 hst6
        have hl : L2.length ≤ 1000000 := by simp at hct; omega
        · have SM := Lib.hid (fun w h1 h2 => psame_yes a5 a6 L2.length cap5 cap6 L2 w h1 h2 hl)
          go_wp2_with (first | (go_at_call 32; (with_reducible refine (AW.out _).mono ?_); rintro e w5 ⟨rfl, hb5⟩; replace F := Lib.hid (block_below F.out hb5); replace K := Lib.hid (nextB K.out hb5); replace A5 := Lib.hid (A5.out.below hb5); replace A6 := Lib.hid (A6.out.below hb5); clear hb5; obtain ⟨f0, f1⟩ := cells2 (F.out)) | (go_at_call 16; (with_reducible refine (BD.out _).mono ?_); rintro e w6 ⟨rfl, hb6⟩; replace K := Lib.hid (nextB K.out hb6); replace A5 := Lib.hid (A5.out.below hb6); replace A6 := Lib.hid (A6.out.below hb6); clear hb6) | (go_at_call 39; (with_reducible refine (SM.out _ A5 A6).mono ?_); rintro e w7 ⟨rfl, hb7⟩; replace K := Lib.hid (nextB K.out hb7); clear hb7))
          go_ret
          exact ⟨rfl, K.out⟩
      · obtain ⟨rfl, rfl⟩ : c = 1 ∧ q = (k : Int) := by simpa using he
        obtain rfl := HBD.out k he
        clear he HRJ HBD hst5 hst6
        have F9 := Lib.hid (fun w => fault09_any 1 k w)
        have cc : w4.cell? ⟨fb, 0, none⟩ = some (.int .i64 1) ∧ w4.cell? ⟨fb, 1, none⟩ = some (.int .i64 (k : Nat)) := ⟨cell_at (j := 0) F.out, cell_at (j := 1) F.out⟩
        have hfb := (Array.getElem?_eq_some_iff.1 F.out).1
        have hk0 : (0 : Int) ≤ (k : Int) := by omega
        go_upto_region 12 with (fail)
        go_region_held3 (fun w' => w'.cell? ⟨fb, 0, none⟩ = some (.int .i64 1) ∧ w'.cell? ⟨fb, 1, none⟩ = some (.int .i64 (k : Nat))) (first | exact cc | exact x6 | exact x5 | fail) (first | (go_at_call 32; (with_reducible refine (AW.out _).mono ?_); rintro e w5 ⟨rfl, hb5⟩; have k5 := Lib.hid (drewB hb5); have x5 := keep2 k5.out (Below.refl _ _) hfb cc; clear hb5) | (go_at_call 27; (with_reducible refine (F9.out _).mono ?_); rintro e w6 ⟨rfl, hb6⟩; have k6 := Lib.hid (nextB k5.out hb6); have x6 := keep2 k6.out (Below.refl _ _) hfb cc; clear hb6 x5))
        go_wp2
        go_ret
        exact ⟨rfl, nextB K.out k6.out⟩
theorem walk_PacketJoins (w : World) (v : Value) (hv : PagesIn w v) : Calls Try.prog 9 #[v] w fun e w' => e = .returned (.bool true) ∧ Below w.heap.size w w' := by
  obtain ⟨a, n, cap, ps, rfl, hs, hcap, hn, hok⟩ := hv
  by_cases hl : n ≤ 20
  · exact pjoins_in a n cap ps w (Lib.hid hs) hl (Lib.hid hok)
  · exact pjoins_over a n cap w (by omega)
end Go.Proofs.Ytmnmonmbdgedbaa
