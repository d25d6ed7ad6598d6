/- Layer 17 (page): what reading a page comes to, as plain data. -/
import Derived.Test.YtmnmonmbdgedbaaPage3
import Derived.Test.YtmnmonmbdgedbaaOcx
namespace Go.Proofs.Ytmnmonmbdgedbaa
open Go.RowKit
set_option linter.unusedVariables false

def zeroP : Pg := ⟨0, 0, 0, 0, [], []⟩
/-- all of a page read: the reader behind it, the page, its sum's bytes, their place -/
def pgMain (m : Rd) : Rd × Pg × List UInt8 × Int :=
  let m1 := (m.want [79, 103, 103, 83]).1
  let m2 := (m1.want [0]).1
  let a3 := m2.take ((1 : Nat) : Int)
  let a4 := a3.1.take ((8 : Nat) : Int)
  let a5 := a4.1.take ((4 : Nat) : Int)
  let a6 := a5.1.take ((4 : Nat) : Int)
  let a7 := a6.1.take ((4 : Nat) : Int)
  let a8 := a7.1.take ((1 : Nat) : Int)
  let a9 := a8.1.take (numL a8.2 : Nat)
  let a10 := a9.1.take (lacesL a9.2 : Nat)
  (a10.1, ⟨UInt8.ofNat (numL a3.2), numL a4.2.reverse, numL a5.2.reverse, numL a6.2.reverse, a9.2, a10.2⟩, a7.2, a6.1.bs + a6.1.nx)
def pgParse (m : Rd) : Rd × Pg × Bool :=
  if m.cd = 0 ∧ m.left ≠ 0 then
    if (pgMain m).1.cd = 0 then
      if (sumP (pgMain m).2.1).toNat = numL (pgMain m).2.2.1.reverse then ((pgMain m).1, (pgMain m).2.1, true)
      else ((pgMain m).1.fail 1 (pgMain m).2.2.2, zeroP, false)
    else ((pgMain m).1, zeroP, false)
  else (m, zeroP, false)

theorem check_zero {p : Pg} (h : checkC p = 0) : p.la.length ≤ 255 ∧ p.bo.length = lacesL p.la := by
  unfold checkC at h
  split at h
  · cases h
  · split at h
    · cases h
    · exact ⟨by omega, by rename_i h2; exact Decidable.not_not.1 h2⟩
theorem check_of {p : Pg} (h1 : p.la.length ≤ 255) (h2 : p.bo.length = lacesL p.la) : checkC p = 0 := by
  unfold checkC
  rw [if_neg (by omega), if_neg (by simpa using h2)]
theorem parts_spell (p : Pg) (four r : List UInt8) : (partsL p four).flatten ++ r = [79, 103, 103, 83] ++ ([0] ++ (bigL p.fl.toNat 1 ++ (smallL p.po 8 ++ (smallL p.se 4 ++ (smallL p.nu 4 ++ (four ++ (bigL p.la.length 1 ++ (p.la ++ (p.bo ++ r))))))))) := by
  simp [partsL, List.append_assoc]
theorem parts_spell0 (p : Pg) (four : List UInt8) : (partsL p four).flatten = [79, 103, 103, 83] ++ ([0] ++ (bigL p.fl.toNat 1 ++ (smallL p.po 8 ++ (smallL p.se 4 ++ (smallL p.nu 4 ++ (four ++ (bigL p.la.length 1 ++ (p.la ++ p.bo)))))))) := by
  simp [partsL]
theorem print_len (p : Pg) : (printL p).length = 27 + p.la.length + p.bo.length := by
  unfold printL
  rw [parts_spell0]
  simp only [List.length_append, smallL_len, bigL_len, List.length_cons, List.length_nil]
  omega

/-- the sum of a page, as its four bytes say it -/
theorem sum_back (z : BitVec 32) : numL (smallL z.toNat 4).reverse = z.toNat := small_four _ z.isLt

theorem main_run (m : Rd) (p : Pg) (r : List UInt8) (hp : p.Ok) (hc : checkC p = 0) (h : Run m (printL p ++ r)) :
    pgMain m = (adv m (printL p).length, p, smallL (sumP p).toNat 4, (adv m 22).bs + (adv m 22).nx) := by
  obtain ⟨hl, hb⟩ := check_zero hc
  have hpl := print_len p
  unfold printL at h hpl ⊢
  rw [parts_spell] at h
  have w1 := h.want
  have h1 := h.adv
  have w2 := h1.want
  have h2 := h1.adv
  have t3 := h2.take_k ((1 : Nat) : Int) (by rw [bigL_len])
  have h3 := h2.adv
  have t4 := h3.take_k ((8 : Nat) : Int) (by rw [smallL_len])
  have h4 := h3.adv
  have t5 := h4.take_k ((4 : Nat) : Int) (by rw [smallL_len])
  have h5 := h4.adv
  have t6 := h5.take_k ((4 : Nat) : Int) (by rw [smallL_len])
  have h6 := h5.adv
  have t7 := h6.take_k ((4 : Nat) : Int) (by rw [smallL_len])
  have h7 := h6.adv
  have t8 := h7.take_k ((1 : Nat) : Int) (by rw [bigL_len])
  have h8 := h7.adv
  have e8 : numL (bigL p.la.length 1) = p.la.length := big_num _ (by omega)
  have t9 := h8.take
  have h9 := h8.adv
  have t10 := h9.take
  rw [hb] at t10
  have e3 : UInt8.ofNat (numL (bigL p.fl.toNat 1)) = p.fl := by
    rw [big_num _ (UInt8.toNat_lt _)]
    simp
  have e4 := small_eight p.po hp.1
  have e5 := small_four p.se hp.2.1
  have e6 := small_four p.nu hp.2.2
  unfold pgMain
  simp only [w1, w2, t3, t4, t5, t6, t7, t8, e8, t9, t10, e3, e4, e5, e6]
  simp only [adv_adv, bigL_len, smallL_len, hpl, hb]
  refine Prod.ext ?_ rfl
  show adv m _ = adv m _
  congr 1

theorem parse_run (m : Rd) (p : Pg) (r : List UInt8) (hp : p.Ok) (hc : checkC p = 0) (h : Run m (printL p ++ r)) : pgParse m = (adv m (printL p).length, p, true) := by
  have hl := h.left
  unfold pgParse
  rw [main_run m p r hp hc h, if_pos ⟨h.1, by rw [hl, List.length_append, print_len]; omega⟩]
  dsimp only
  rw [if_pos (show (adv m (printL p).length).cd = 0 from h.1), if_pos (sum_back (sumP p)).symm]
theorem parse_end (m : Rd) (h : Run m []) : pgParse m = (m, zeroP, false) := by
  unfold pgParse
  rw [if_neg (by rw [h.left]; simp)]

theorem main_cut (m : Rd) (p : Pg) (s q : List UInt8) (hp : p.Ok) (hc : checkC p = 0) (hs : s ++ q = printL p) (hq : 0 < q.length) (h : Run m s) : Fell m (pgMain m).1 := by
  obtain ⟨hl, hb⟩ := check_zero hc
  unfold printL at hs
  rw [parts_spell0] at hs
  rcases cut_step hs with ⟨s1, rfl, k1⟩ | ⟨a', ha, hpos⟩
  rotate_left
  · have F := h.want_fell ha hpos
    unfold pgMain
    simp only [F.want, F.take]
    exact F
  have w1 := h.want
  have h1 := h.adv
  rcases cut_step k1 with ⟨s2, rfl, k2⟩ | ⟨a', ha, hpos⟩
  rotate_left
  · have F := h1.want_fell ha hpos
    unfold pgMain
    simp only [w1, F.take]
    exact F
  have w2 := h1.want
  have h2 := h1.adv
  rcases cut_step k2 with ⟨s3, rfl, k3⟩ | ⟨a', ha, hpos⟩
  rotate_left
  · have F := (h2.take_fell ((1 : Nat) : Int) (by have := congrArg List.length ha; rw [bigL_len, List.length_append] at this; omega)).1
    unfold pgMain
    simp only [w1, w2, F.take]
    exact F
  have t3 := h2.take_k ((1 : Nat) : Int) (by rw [bigL_len])
  have h3 := h2.adv
  rcases cut_step k3 with ⟨s4, rfl, k4⟩ | ⟨a', ha, hpos⟩
  rotate_left
  · have F := (h3.take_fell ((8 : Nat) : Int) (by have := congrArg List.length ha; rw [smallL_len, List.length_append] at this; omega)).1
    unfold pgMain
    simp only [w1, w2, t3, F.take]
    exact F
  have t4 := h3.take_k ((8 : Nat) : Int) (by rw [smallL_len])
  have h4 := h3.adv
  rcases cut_step k4 with ⟨s5, rfl, k5⟩ | ⟨a', ha, hpos⟩
  rotate_left
  · have F := (h4.take_fell ((4 : Nat) : Int) (by have := congrArg List.length ha; rw [smallL_len, List.length_append] at this; omega)).1
    unfold pgMain
    simp only [w1, w2, t3, t4, F.take]
    exact F
  have t5 := h4.take_k ((4 : Nat) : Int) (by rw [smallL_len])
  have h5 := h4.adv
  rcases cut_step k5 with ⟨s6, rfl, k6⟩ | ⟨a', ha, hpos⟩
  rotate_left
  · have F := (h5.take_fell ((4 : Nat) : Int) (by have := congrArg List.length ha; rw [smallL_len, List.length_append] at this; omega)).1
    unfold pgMain
    simp only [w1, w2, t3, t4, t5, F.take]
    exact F
  have t6 := h5.take_k ((4 : Nat) : Int) (by rw [smallL_len])
  have h6 := h5.adv
  rcases cut_step k6 with ⟨s7, rfl, k7⟩ | ⟨a', ha, hpos⟩
  rotate_left
  · have F := (h6.take_fell ((4 : Nat) : Int) (by have := congrArg List.length ha; rw [smallL_len, List.length_append] at this; omega)).1
    unfold pgMain
    simp only [w1, w2, t3, t4, t5, t6, F.take]
    exact F
  have t7 := h6.take_k ((4 : Nat) : Int) (by rw [smallL_len])
  have h7 := h6.adv
  rcases cut_step k7 with ⟨s8, rfl, k8⟩ | ⟨a', ha, hpos⟩
  rotate_left
  · have F := (h7.take_fell ((1 : Nat) : Int) (by have := congrArg List.length ha; rw [bigL_len, List.length_append] at this; omega)).1
    unfold pgMain
    simp only [w1, w2, t3, t4, t5, t6, t7, F.take]
    exact F
  have t8 := h7.take_k ((1 : Nat) : Int) (by rw [bigL_len])
  have h8 := h7.adv
  have e8 : numL (bigL p.la.length 1) = p.la.length := big_num _ (by omega)
  rcases cut_step k8 with ⟨s9, rfl, k9⟩ | ⟨a', ha, hpos⟩
  rotate_left
  · have F := (h8.take_fell ((p.la.length : Nat) : Int) (by have := congrArg List.length ha; rw [List.length_append] at this; omega)).1
    unfold pgMain
    simp only [w1, w2, t3, t4, t5, t6, t7, t8, e8, F.take]
    exact F
  have t9 := h8.take
  have h9 := h8.adv
  have F := (h9.take_fell ((lacesL p.la : Nat) : Int) (by have := congrArg List.length k9; rw [List.length_append] at this; omega)).1
  unfold pgMain
  simp only [w1, w2, t3, t4, t5, t6, t7, t8, e8, t9]
  exact F
theorem parse_cut (m : Rd) (p : Pg) (s q : List UInt8) (hp : p.Ok) (hc : checkC p = 0) (hs : s ++ q = printL p) (hq : 0 < q.length) (hs0 : 0 < s.length) (h : Run m s) : ∃ m', pgParse m = (m', zeroP, false) ∧ Fell m m' := by
  have F := main_cut m p s q hp hc hs hq h
  refine ⟨_, ?_, F⟩
  unfold pgParse
  rw [if_pos ⟨h.1, by rw [h.left]; omega⟩, if_neg F.cd]

/-- what is read is what would be printed -/
theorem parse_sound (m m' : Rd) (p : Pg) (hm : m.nx ≤ m.t.length) (h : pgParse m = (m', p, true)) :
    p.Ok ∧ checkC p = 0 ∧ m' = adv m (printL p).length ∧ m.t.drop m.nx = printL p ++ m'.t.drop m'.nx ∧ m'.nx ≤ m'.t.length := by
  unfold pgParse at h
  split at h
  rotate_left
  · cases h
  rename_i h0
  split at h
  rotate_left
  · cases h
  rename_i hcd
  split at h
  rotate_left
  · cases h
  rename_i hsum
  simp only [Prod.mk.injEq, and_true] at h
  obtain ⟨h1, h2⟩ := h
  rw [h2] at hsum
  unfold pgMain at hcd h1 h2 hsum
  simp only at hcd h1 h2 hsum
  generalize hm1 : (m.want [79, 103, 103, 83]).1 = m1 at *
  generalize hm2 : (m1.want [0]).1 = m2 at *
  generalize ha3 : m2.take ((1 : Nat) : Int) = a3 at *
  generalize ha4 : a3.1.take ((8 : Nat) : Int) = a4 at *
  generalize ha5 : a4.1.take ((4 : Nat) : Int) = a5 at *
  generalize ha6 : a5.1.take ((4 : Nat) : Int) = a6 at *
  generalize ha7 : a6.1.take ((4 : Nat) : Int) = a7 at *
  generalize ha8 : a7.1.take ((1 : Nat) : Int) = a8 at *
  generalize ha9 : a8.1.take ((numL a8.2 : Nat) : Int) = a9 at *
  generalize ha10 : a9.1.take ((lacesL a9.2 : Nat) : Int) = a10 at *
  have take_le : ∀ (r : Rd) (k : Nat), r.nx ≤ r.t.length → (r.take (k : Int)).1.nx ≤ (r.take (k : Int)).1.t.length := by
    intro r k hr
    have e := take_nx r k hr
    have e2 := take_len r k
    rw [take_t, e]
    unfold Rd.take
    split
    · split
      · simpa using hr
      · simp; omega
    · simpa using hr
  have want_le : ∀ (r : Rd) (s : List UInt8), r.nx ≤ r.t.length → (r.want s).1.nx ≤ (r.want s).1.t.length := by
    intro r s hr
    unfold Rd.want
    split
    · split
      · simp only [Rd.fail_nx, Rd.fail_t]; exact hr
      · split
        · unfold Rd.short; simp only [Rd.fail_nx, Rd.fail_t]; exact hr
        · rename_i hh
          rw [List.length_drop] at hh
          show r.nx + s.length ≤ r.t.length
          omega
    · exact hr
  have l1 : m1.nx ≤ m1.t.length := by rw [← hm1]; exact want_le _ _ hm
  have l2 : m2.nx ≤ m2.t.length := by rw [← hm2]; exact want_le _ _ l1
  have l3 : a3.1.nx ≤ a3.1.t.length := by rw [← ha3]; exact take_le _ _ l2
  have l4 : a4.1.nx ≤ a4.1.t.length := by rw [← ha4]; exact take_le _ _ l3
  have l5 : a5.1.nx ≤ a5.1.t.length := by rw [← ha5]; exact take_le _ _ l4
  have l6 : a6.1.nx ≤ a6.1.t.length := by rw [← ha6]; exact take_le _ _ l5
  have l7 : a7.1.nx ≤ a7.1.t.length := by rw [← ha7]; exact take_le _ _ l6
  have l8 : a8.1.nx ≤ a8.1.t.length := by rw [← ha8]; exact take_le _ _ l7
  have l9 : a9.1.nx ≤ a9.1.t.length := by rw [← ha9]; exact take_le _ _ l8
  obtain ⟨c10, n10, e10⟩ := take_ok_of l9 (by rw [ha10]; exact hcd)
  obtain ⟨c9, n9, e9⟩ := take_ok_of l8 (by rw [ha9]; exact c10)
  obtain ⟨c8, n8, e8⟩ := take_ok_of l7 (by rw [ha8]; exact c9)
  obtain ⟨c7, n7, e7⟩ := take_ok_of l6 (by rw [ha7]; exact c8)
  obtain ⟨c6, n6, e6⟩ := take_ok_of l5 (by rw [ha6]; exact c7)
  obtain ⟨c5, n5, e5⟩ := take_ok_of l4 (by rw [ha5]; exact c6)
  obtain ⟨c4, n4, e4⟩ := take_ok_of l3 (by rw [ha4]; exact c5)
  obtain ⟨c3, n3, e3⟩ := take_ok_of l2 (by rw [ha3]; exact c4)
  obtain ⟨c2, n2, e2, s2⟩ := want_ok_of l1 (by rw [hm2]; exact c3)
  obtain ⟨c1, n1, e1, s1⟩ := want_ok_of hm (by rw [hm1]; exact c2)
  rw [ha10] at e10; rw [ha9] at e9; rw [ha8] at e8; rw [ha7] at e7; rw [ha6] at e6; rw [ha5] at e5; rw [ha4] at e4; rw [ha3] at e3; rw [hm2] at e2; rw [hm1] at e1
  clear ha10 ha9 ha8 ha7 ha6 ha5 ha4 ha3 hm2 hm1 take_le want_le l1 l2 l3 l4 l5 l6 l7 l8 l9 c10 c9 c8 c7 c6 c5 c4 c3 c2 c1
  obtain ⟨q3, b3⟩ := a3; obtain ⟨q4, b4⟩ := a4; obtain ⟨q5, b5⟩ := a5; obtain ⟨q6, b6⟩ := a6; obtain ⟨q7, b7⟩ := a7; obtain ⟨q8, b8⟩ := a8; obtain ⟨q9, b9⟩ := a9; obtain ⟨q10, b10⟩ := a10
  simp only [Prod.mk.injEq] at e10 e9 e8 e7 e6 e5 e4 e3
  simp only at *
  obtain ⟨rfl, g10⟩ := e10; obtain ⟨rfl, g9⟩ := e9; obtain ⟨rfl, g8⟩ := e8; obtain ⟨rfl, g7⟩ := e7; obtain ⟨rfl, g6⟩ := e6; obtain ⟨rfl, g5⟩ := e5; obtain ⟨rfl, g4⟩ := e4; obtain ⟨rfl, g3⟩ := e3
  subst e2
  subst e1
  simp only [adv] at g10 g9 g8 g7 g6 g5 g4 g3 n10 n9 n8 n7 n6 n5 n4 n3 n2 n1 s2 s1
  have lb10 : b10.length = lacesL b9 := by rw [g10, List.length_take, List.length_drop]; omega
  have lb9 : b9.length = numL b8 := by rw [g9, List.length_take, List.length_drop]; omega
  have lb8 : b8.length = 1 := by rw [g8, List.length_take, List.length_drop]; omega
  have lb7 : b7.length = 4 := by rw [g7, List.length_take, List.length_drop]; omega
  have lb6 : b6.length = 4 := by rw [g6, List.length_take, List.length_drop]; omega
  have lb5 : b5.length = 4 := by rw [g5, List.length_take, List.length_drop]; omega
  have lb4 : b4.length = 8 := by rw [g4, List.length_take, List.length_drop]; omega
  have lb3 : b3.length = 1 := by rw [g3, List.length_take, List.length_drop]; omega
  have hb8 : numL b8 < 256 := by have := numL_bound b8; rw [lb8] at this; exact this
  subst h2
  have hck : checkC ⟨UInt8.ofNat (numL b3), numL b4.reverse, numL b5.reverse, numL b6.reverse, b9, b10⟩ = 0 := check_of (by show b9.length ≤ 255; omega) lb10
  refine ⟨⟨numL_lt8 _ (by simpa using lb4), numL_lt4 _ (by simpa using lb5), numL_lt4 _ (by simpa using lb6)⟩, hck, ?_, ?_, ?_⟩
  · rw [← h1, print_len]
    simp only [adv]
    congr 1
    show _ = m.nx + (27 + b9.length + b10.length)
    simp only [List.length_cons, List.length_nil]
    omega
  · have hf : smallL (sumP ⟨UInt8.ofNat (numL b3), numL b4.reverse, numL b5.reverse, numL b6.reverse, b9, b10⟩).toNat 4 = b7 := by
      rw [hsum, ← lb7]
      exact smallL_numL b7
    unfold printL
    rw [hf, parts_spell, ← h1]
    show _ = _ ++ (_ ++ (bigL (UInt8.ofNat (numL b3)).toNat 1 ++ (smallL (numL b4.reverse) 8 ++ (smallL (numL b5.reverse) 4 ++ (smallL (numL b6.reverse) 4 ++ (b7 ++ (bigL b9.length 1 ++ (b9 ++ (b10 ++ _)))))))))
    have x3 := big_one b3 lb3
    have x4 : smallL (numL b4.reverse) 8 = b4 := by rw [← lb4]; exact smallL_numL b4
    have x5 : smallL (numL b5.reverse) 4 = b5 := by rw [← lb5]; exact smallL_numL b5
    have x6 : smallL (numL b6.reverse) 4 = b6 := by rw [← lb6]; exact smallL_numL b6
    have x8 : bigL b9.length 1 = b8 := by
      rw [lb9]
      have := big_one b8 lb8
      rwa [show (UInt8.ofNat (numL b8)).toNat = numL b8 by rw [UInt8.toNat_ofNat']; omega] at this
    rw [x3, x4, x5, x6, x8]
    simp only [adv]
    conv => lhs; rw [drop_parts m.t m.nx ([79, 103, 103, 83] : List UInt8).length, s1, drop_parts m.t (m.nx + _) [(0 : UInt8)].length, s2, drop_parts m.t (m.nx + _ + _) 1, ← g3, drop_parts m.t (m.nx + _ + _ + 1) 8, ← g4, drop_parts m.t (m.nx + _ + _ + 1 + 8) 4, ← g5, drop_parts m.t (m.nx + _ + _ + 1 + 8 + 4) 4, ← g6,
      drop_parts m.t (m.nx + _ + _ + 1 + 8 + 4 + 4) 4, ← g7, drop_parts m.t (m.nx + _ + _ + 1 + 8 + 4 + 4 + 4) 1, ← g8, drop_parts m.t (m.nx + _ + _ + 1 + 8 + 4 + 4 + 4 + 1) (numL b8), ← g9, drop_parts m.t (m.nx + _ + _ + 1 + 8 + 4 + 4 + 4 + 1 + numL b8) (lacesL b9), ← g10]
  · rw [← h1]
    exact n10
end Go.Proofs.Ytmnmonmbdgedbaa
