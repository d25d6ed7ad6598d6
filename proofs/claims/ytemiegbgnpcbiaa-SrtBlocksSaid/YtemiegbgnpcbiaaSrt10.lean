/- The walk of the statement SrtBlocks. -/
import Derived.Test.YtemiegbgnpcbiaaSrt9
namespace Go.Proofs.Ytemiegbgnpcbiaa
open Go.RowKit
set_option linter.unusedVariables false

theorem parse_code (t : List UInt8) (ht : t.length ≤ 100000) : ∃ c d : Int, (∀ x, readS t = .error x → c = 1) ∧ (∀ r, readS t = .ok r → c = 0) ∧
    ∀ w, Calls Try.prog 23 #[.string ⟨t.toArray⟩] w fun e w' => ∃ v, e = .returned (.tuple #[v, .agg #[.int .i64 c, .int .i64 d]]) ∧ Below w.heap.size w w' := by
  have h := fun w => sparse_any t w (by omega)
  unfold ParseSays at h
  rcases hr : readS t with x | ⟨cnt, acc⟩
  · rw [hr] at h
    exact ⟨1, x, (fun _ _ => rfl), (fun _ h => by cases h), (fun w => (h w).mono (fun e w' ⟨h1, h2⟩ => ⟨_, h1, h2⟩))⟩
  · rw [hr] at h
    exact ⟨0, 0, (fun _ h => by cases h), (fun _ _ => rfl), (fun w => (h w).mono (fun e w' ⟨v, h1, _, h2⟩ => ⟨v, h1, h2⟩))⟩

set_option maxRecDepth 100000 in
theorem sblocks_over (a b : List UInt8) (w : World) (h : (500 : Int) < a.length ∨ (500 : Int) < b.length) :
    Calls Try.prog 8 #[.string ⟨a.toArray⟩, .string ⟨b.toArray⟩] w fun e w' => e = .returned (.bool true) ∧ Below w.heap.size w w' := by
  by_cases h1 : (500 : Int) < a.length
  · go_enter Try.func8, Try.ntmps8
    go_wp2_with (go_at_call 22; refine (awake24' _).mono ?_; rintro e w1 ⟨rfl, hb1⟩)
    go_ret
    exact ⟨rfl, hb1⟩
  · have h2 : (500 : Int) < b.length := by omega
    go_enter Try.func8, Try.ntmps8
    go_wp2_with (go_at_call 22; refine (awake24' _).mono ?_; rintro e w1 ⟨rfl, hb1⟩)
    go_ret
    exact ⟨rfl, hb1⟩

set_option maxHeartbeats 4000000 in
set_option maxRecDepth 100000 in
theorem sblocks_in (a b : List UInt8) (w : World) (ha : ¬ (500 : Int) < a.length) (hb : ¬ (500 : Int) < b.length) :
    Calls Try.prog 8 #[.string ⟨a.toArray⟩, .string ⟨b.toArray⟩] w fun e w' => e = .returned (.bool true) ∧ Below w.heap.size w w' := by
  obtain ⟨ca, da, pa1, pa2, pa3⟩ := parse_code a (by omega)
  obtain ⟨cb, db, pb1, pb2, pb3⟩ := parse_code b (by omega)
  have CA := Lib.hid pa3
  have CB := Lib.hid pb3
  have PA1 := Lib.hid pa1
  have PA2 := Lib.hid pa2
  have PB1 := Lib.hid pb1
  have PB2 := Lib.hid pb2
  clear pa1 pa2 pa3 pb1 pb2 pb3
  go_enter Try.func8, Try.ntmps8
  go_upto_region 5 with (go_at_call 23; first | (have _chk := hb1; refine (CB.out _).mono ?_; rintro e w2 ⟨v2, rfl, hb2⟩) | (refine (CA.out _).mono ?_; rintro e w1 ⟨v1, rfl, hb1⟩))
  have hal1 : Below w1.heap.size w1 (w1.alloc (.cells #[.int .i64 ca, .int .i64 da] 42)) := (Below.refl _ _).alloc (Nat.le_refl _) _
  have hal2 : Below w2.heap.size w2 (w2.alloc (.cells #[.int .i64 cb, .int .i64 db] 42)) := (Below.refl _ _).alloc (Nat.le_refl _) _
  have hf1 := block_below (block_below (at_a0 w1 #[.int .i64 ca, .int .i64 da] 42) hb2) hal2
  have hf2 := at_a0 w2 #[.int .i64 cb, .int .i64 db] 42
  have HB := Lib.hid (nextB (nextB (nextB hb1 hal1) hb2) hal2)
  have c0 := cell_at (j := 0) hf1
  have c1 := cell_at (j := 1) hf1
  simp only [List.getElem?_toArray, List.getElem?_cons_zero, List.getElem?_cons_succ] at c0 c1
  clear hb1 hb2 hal1 hal2 CA CB
  generalize w2.alloc (.cells #[.int .i64 cb, .int .i64 db] 42) = V at *
  generalize w2.heap.size = x2 at *
  generalize w1.heap.size = x1 at *
  rcases hra : readS a with xa | ⟨na, la⟩
  · obtain rfl := PA1.out _ hra
    clear PA1 PA2 PB1 PB2 hra hf1 hf2
    go_wp2_with (first | (go_at_call 29; refine (bad_any _ _ _).mono ?_; rintro e w3 ⟨rfl, hb3⟩; have HB3 := Lib.hid (nextB HB.out hb3)) | (go_at_call 22; refine (awake24' _).mono ?_; rintro e w4 ⟨rfl, hb4⟩))
    go_ret
    exact ⟨rfl, nextB HB3.out hb4⟩
  · obtain rfl := PA2.out _ hra
    rcases hrb : readS b with xb | ⟨nb, lb⟩
    · obtain rfl := PB1.out _ hrb
      clear PA1 PA2 PB1 PB2 hra hrb hf1
      go_wp2_with (first | (go_at_call 29; first | (have _chk := HB3; refine (bad_any _ _ _).mono ?_; rintro e w5 ⟨rfl, hb5⟩; have HB5 := Lib.hid (nextB HB3.out hb5)) | (refine (bad_any _ _ _).mono ?_; rintro e w3 ⟨rfl, hb3⟩; have HB3 := Lib.hid (nextB HB.out hb3); have hf3 := block_below hf2 hb3; have d0 := cell_at (j := 0) hf3; have d1 := cell_at (j := 1) hf3; simp only [List.getElem?_toArray, List.getElem?_cons_zero, List.getElem?_cons_succ] at d0 d1)) | (go_at_call 22; refine (awake24' _).mono ?_; rintro e w4 ⟨rfl, hb4⟩))
      go_ret
      exact ⟨rfl, nextB HB5.out hb4⟩
    · obtain rfl := PB2.out _ hrb
      obtain ⟨lt, hrt⟩ := read_two a b na nb la lb hra hrb
      obtain ⟨ct, dt, pt1, pt2, pt3⟩ := parse_code (a ++ 10 :: 10 :: b) (by simp; omega)
      obtain rfl := pt2 _ hrt
      have qt := fun w => scount_any (a ++ 10 :: 10 :: b) w (by simp; omega)
      have qa := fun w => scount_any a w (by omega)
      have qb := fun w => scount_any b w (by omega)
      unfold countS at qt qa qb
      rw [hrt] at qt
      rw [hra] at qa
      rw [hrb] at qb
      simp only at qt qa qb
      have hna : na ≤ 100000 := by have h1 := read_tm a na la hra; have h2 := read_count a na la hra; have h3 : tm la ≤ la.length := List.countP_le_length; omega
      have hnb : nb ≤ 100000 := by have h1 := read_tm b nb lb hrb; have h2 := read_count b nb lb hrb; have h3 : tm lb ≤ lb.length := List.countP_le_length; omega
      have CT := Lib.hid pt3
      have QT := Lib.hid qt
      have QA := Lib.hid qa
      have QB := Lib.hid qb
      have hlen : a.length + (2 + b.length) ≤ 2000 := by omega
      clear PA1 PA2 PB1 PB2 hra hrb hf1 pt1 pt2 pt3 qt qa qb hrt
      go_upto_region 8 with (go_at_call 29; first | (have _chk := HB3; refine (bad_any _ _ _).mono ?_; rintro e w5 ⟨rfl, hb5⟩; have HB5 := Lib.hid (nextB HB3.out hb5)) | (refine (bad_any _ _ _).mono ?_; rintro e w3 ⟨rfl, hb3⟩; have HB3 := Lib.hid (nextB HB.out hb3); have hf3 := block_below hf2 hb3; have d0 := cell_at (j := 0) hf3; have d1 := cell_at (j := 1) hf3; simp only [List.getElem?_toArray, List.getElem?_cons_zero, List.getElem?_cons_succ] at d0 d1))
      clear c0 c1 d0 d1 hf2 hf3 hb3 hb5
      go_upto_region 9 with (go_at_call 23; refine (CT.out _).mono ?_; rintro e w6 ⟨v6, rfl, hb6⟩)
      have hal6 : Below w6.heap.size w6 (w6.alloc (.cells #[.int .i64 0, .int .i64 dt] 42)) := (Below.refl _ _).alloc (Nat.le_refl _) _
      have hf6 := at_a0 w6 #[.int .i64 0, .int .i64 dt] 42
      have HB6 := Lib.hid (nextB (nextB HB5.out hb6) hal6)
      clear hb6 hal6 CT
      generalize w6.alloc (.cells #[.int .i64 0, .int .i64 dt] 42) = V6 at *
      generalize w6.heap.size = x6 at *
      go_wp2_with (first | (go_at_call 22; refine (awake24' _).mono ?_; rintro e w7 ⟨rfl, hb7⟩; have HB7 := Lib.hid (nextB HB6.out hb7); have hf7 := block_below hf6 hb7; have c0 := cell_at (j := 0) hf7; have c1 := cell_at (j := 1) hf7; simp only [List.getElem?_toArray, List.getElem?_cons_zero, List.getElem?_cons_succ] at c0 c1) | (go_at_call 29; refine (bad_any _ _ _).mono ?_; rintro e w8 ⟨rfl, hb8⟩; have HB8 := Lib.hid (nextB HB7.out hb8)) | (go_at_call 28; first | (have _chk := HB10; refine (QB.out _).mono ?_; rintro e w11 ⟨rfl, hb11⟩; have HB11 := Lib.hid (nextB HB10.out hb11)) | (have _chk := HB9; refine (QA.out _).mono ?_; rintro e w10 ⟨rfl, hb10⟩; have HB10 := Lib.hid (nextB HB9.out hb10)) | (refine (QT.out _).mono ?_; rintro e w9 ⟨rfl, hb9⟩; have HB9 := Lib.hid (nextB HB8.out hb9))))
      go_ret
      exact ⟨rfl, HB11.out⟩

theorem walk_SrtBlocks (a : List UInt8) (ha : a.length ≤ maxLen) (b : List UInt8) (hb : b.length ≤ maxLen) (w : World) :
    Calls Try.prog 8 #[.string ⟨a.toArray⟩, .string ⟨b.toArray⟩] w fun e w' => e = .returned (.bool true) ∧ Below w.heap.size w w' := by
  by_cases h : (500 : Int) < a.length ∨ (500 : Int) < b.length
  · exact sblocks_over a b w h
  · exact sblocks_in a b w (by omega) (by omega)
end Go.Proofs.Ytemiegbgnpcbiaa
