/- Layer 13 (frame): frame.fill, joined. -/
import Derived.Test.YtmnmonmbdgedbaaFr2
import Derived.Test.YtmnmonmbdgedbaaOcx
namespace Go.Proofs.Ytmnmonmbdgedbaa
open Go.RowKit
set_option linter.unusedVariables false
set_option linter.unusedSimpArgs false


theorem fr_safe_ok {m : Rd} (hm : m.Ok) : m.safe.1.Ok := by
  unfold Rd.safe
  split
  · exact (take_ok _ hm).fail _ _
  · exact take_ok _ hm
theorem take_le_text (m : Rd) (n : Int) : (m.take n).2.length ≤ m.t.length := by
  unfold Rd.take
  split
  · split
    · simp
    · simp only [List.length_take, List.length_drop]; omega
  · simp
theorem fr_safe_t (m : Rd) : m.safe.1.t = m.t := by
  unfold Rd.safe
  split
  · rw [Rd.fail_t, take_t]
  · rw [take_t]
theorem u8_num (l : List UInt8) (h : l.length ≤ 1) : (UInt8.ofNat (numL l)).toNat = numL l := by
  have h1 := numL_bound l
  have h2 : (256 : Nat) ^ l.length ≤ 256 ^ 1 := Nat.pow_le_pow_right (by decide) h
  rw [UInt8.toNat_ofNat']
  omega

set_option maxRecDepth 100000 in
theorem fill_any (v : Int) (fb : Nat) (id : List UInt8) (st fm : UInt8) (data : List UInt8) (pl at0 : Int) (w : World) (hf : w.heap[fb]? = some (.cells (frC id st fm 0 [] pl) 47 (0, 0)))
    (hd : data.length ≤ 1000000000) (ha : at0 ≤ 3000000000000) : Calls Try.prog 126 #[.pointer (some ⟨fb, 0, none⟩), .int .i64 v, .string ⟨data.toArray⟩, .int .i64 at0] w
      (FillSays fb id st fm (fillB v fm data at0).1 (fillB v fm data at0).2 pl (fillC v fm data at0).1 (fillC v fm data at0).2 w) := by
  rcases hk : locked v fm with _ | _
  rotate_left
  · unfold fillC fillB
    rw [if_pos hk, if_pos hk]
    exact fill_locked v fb id st fm data pl at0 w hf hk
  have k0 : ¬ locked v fm = true := by rw [hk]; decide
  have LK := Lib.hid (fun w => locked_any v id st fm w)
  have GR := Lib.hid (fun w => grouped_any v id st fm w)
  have ME := Lib.hid (fun w => measured_any v id st fm w)
  have SP := Lib.hid (fun w => spread_any v id st fm w)
  have IN := Lib.hid (fun w => inner_any data at0 w)
  have ok0 := new_ok data at0 hd ha
  have ht0 : (Rd.new data at0).t = data := rfl
  unfold fillC fillB
  rw [if_neg k0, if_neg k0]
  unfold fillM
  rw [hk] at LK
  clear hk k0
  generalize Rd.new data at0 = m0 at *
  have ok1 := take_ok ((1 : Nat) : Int) ok0
  have t1 := take_t m0 ((1 : Nat) : Int)
  have C1 := Lib.hid (fun ib w h => inbig_any ib m0 1 1 w h ok0 (Lib.hid (by decide)))
  have n1 := u8_num (m0.take ((1 : Nat) : Int)).2 (take_len m0 ((1 : Nat) : Int))
  rw [← n1] at C1
  clear n1
  have key : ∀ (m1 : Rd), m1.Ok → m1.t = m0.t → m1.safe.1.Ok ∧ m1.safe.1.rest.2.length ≤ 1000000000 ∧ m1.rest.2.length ≤ 1000000000 := by
    intro m1 o t
    have o2 := fr_safe_ok o
    refine ⟨o2, Nat.le_trans (take_le_text _ _) o2.2.1, Nat.le_trans (take_le_text _ _) o.2.1⟩
  generalize grouped v fm = gp at *
  generalize measured v fm = msd at *
  generalize spreadB v fm = spd at *
  rcases gp with _ | _
  · obtain ⟨ok2, l2, l1⟩ := key m0 ok0 rfl
    rcases msd with _ | _
    · rcases spd with _ | _
      · simp only [Bool.false_eq_true, if_false, if_true, true_and, false_and, ne_eq]
        refine fill_000 v fb id st fm 0 data _ _ pl at0 m0.cd m0.pl _ 0 _ _ m0 m0 m0 _ w hf LK GR ME SP IN rfl rfl (Lib.hid fun ib w h => at_any ib m0 w h ok0) rfl (Lib.hid fun ib w h => fault_any ib m0 w h) (Lib.hid fun ib w h => rest_any ib m0 w h ok0) rfl ?_
        by_cases hc : m0.cd = 0
        · simp [hc]
        · simp [hc]
      · simp only [Bool.false_eq_true, if_false, if_true, true_and, false_and, ne_eq]
        refine fill_001 v fb id st fm 0 data _ _ pl at0 m0.cd m0.pl _ 0 _ _ m0 m0 m0 _ w hf LK GR ME SP IN rfl rfl (Lib.hid fun ib w h => at_any ib m0 w h ok0) rfl (Lib.hid fun ib w h => fault_any ib m0 w h) (Lib.hid fun ib w h => rest_any ib m0 w h ok0) (Lib.hid fun w => drop_any _ w l1) ?_
        by_cases hc : m0.cd = 0
        · simp [hc]
        · simp [hc]
    · rcases spd with _ | _
      · simp only [Bool.false_eq_true, if_false, if_true, true_and, false_and, ne_eq]
        refine fill_010 v fb id st fm 0 data _ _ pl at0 m0.safe.1.cd m0.safe.1.pl _ m0.safe.2 _ _ m0 m0 m0.safe.1 _ w hf LK GR ME SP IN rfl rfl (Lib.hid fun ib w h => at_any ib m0 w h ok0) (Lib.hid fun ib w h => insafe_any ib m0 w h ok0) (Lib.hid fun ib w h => fault_any ib m0.safe.1 w h) (Lib.hid fun ib w h => rest_any ib m0.safe.1 w h ok2) rfl ?_
        generalize m0.safe.2 = ms at *
        generalize m0.safe.1 = m2 at *
        generalize m2.rest.2 = bo at *
        by_cases hc : m2.cd = 0
        · by_cases he : ms = bo.length
          · simp [hc, he]
          · simp [hc, he]
        · simp [hc]
      · simp only [Bool.false_eq_true, if_false, if_true, true_and, false_and, ne_eq]
        refine fill_011 v fb id st fm 0 data _ _ pl at0 m0.safe.1.cd m0.safe.1.pl _ m0.safe.2 _ _ m0 m0 m0.safe.1 _ w hf LK GR ME SP IN rfl rfl (Lib.hid fun ib w h => at_any ib m0 w h ok0) (Lib.hid fun ib w h => insafe_any ib m0 w h ok0) (Lib.hid fun ib w h => fault_any ib m0.safe.1 w h) (Lib.hid fun ib w h => rest_any ib m0.safe.1 w h ok2) (Lib.hid fun w => drop_any _ w l2) ?_
        generalize m0.safe.2 = ms at *
        generalize m0.safe.1 = m2 at *
        generalize sndDrop false m2.rest.2 = bo at *
        by_cases hc : m2.cd = 0
        · by_cases he : ms = bo.length
          · simp [hc, he]
          · simp [hc, he]
        · simp [hc]
  · obtain ⟨ok2, l2, l1⟩ := key _ ok1 t1
    generalize hgg : UInt8.ofNat (numL (m0.take ((1 : Nat) : Int)).2) = gr at *
    generalize (m0.take ((1 : Nat) : Int)) = a1 at *
    obtain ⟨m1, s1⟩ := a1
    simp only [] at ok1 t1 ok2 l2 l1 hgg C1
    subst hgg
    rcases msd with _ | _
    · rcases spd with _ | _
      · simp only [Bool.false_eq_true, if_false, if_true, true_and, false_and, ne_eq]
        refine fill_100 v fb id st fm _ data _ _ pl at0 m1.cd m1.pl _ 0 _ _ m0 m1 m1 _ w hf LK GR ME SP IN C1 (Lib.hid fun ib w h => at_any ib m1 w h ok1) rfl (Lib.hid fun ib w h => fault_any ib m1 w h) (Lib.hid fun ib w h => rest_any ib m1 w h ok1) rfl ?_
        by_cases hc : m1.cd = 0
        · simp [hc]
        · simp [hc]
      · simp only [Bool.false_eq_true, if_false, if_true, true_and, false_and, ne_eq]
        refine fill_101 v fb id st fm _ data _ _ pl at0 m1.cd m1.pl _ 0 _ _ m0 m1 m1 _ w hf LK GR ME SP IN C1 (Lib.hid fun ib w h => at_any ib m1 w h ok1) rfl (Lib.hid fun ib w h => fault_any ib m1 w h) (Lib.hid fun ib w h => rest_any ib m1 w h ok1) (Lib.hid fun w => drop_any _ w l1) ?_
        by_cases hc : m1.cd = 0
        · simp [hc]
        · simp [hc]
    · rcases spd with _ | _
      · simp only [Bool.false_eq_true, if_false, if_true, true_and, false_and, ne_eq]
        refine fill_110 v fb id st fm _ data _ _ pl at0 m1.safe.1.cd m1.safe.1.pl _ m1.safe.2 _ _ m0 m1 m1.safe.1 _ w hf LK GR ME SP IN C1 (Lib.hid fun ib w h => at_any ib m1 w h ok1) (Lib.hid fun ib w h => insafe_any ib m1 w h ok1) (Lib.hid fun ib w h => fault_any ib m1.safe.1 w h) (Lib.hid fun ib w h => rest_any ib m1.safe.1 w h ok2) rfl ?_
        generalize m1.safe.2 = ms at *
        generalize m1.safe.1 = m2 at *
        generalize m2.rest.2 = bo at *
        by_cases hc : m2.cd = 0
        · by_cases he : ms = bo.length
          · simp [hc, he]
          · simp [hc, he]
        · simp [hc]
      · simp only [Bool.false_eq_true, if_false, if_true, true_and, false_and, ne_eq]
        refine fill_111 v fb id st fm _ data _ _ pl at0 m1.safe.1.cd m1.safe.1.pl _ m1.safe.2 _ _ m0 m1 m1.safe.1 _ w hf LK GR ME SP IN C1 (Lib.hid fun ib w h => at_any ib m1 w h ok1) (Lib.hid fun ib w h => insafe_any ib m1 w h ok1) (Lib.hid fun ib w h => fault_any ib m1.safe.1 w h) (Lib.hid fun ib w h => rest_any ib m1.safe.1 w h ok2) (Lib.hid fun w => drop_any _ w l2) ?_
        generalize m1.safe.2 = ms at *
        generalize m1.safe.1 = m2 at *
        generalize sndDrop false m2.rest.2 = bo at *
        by_cases hc : m2.cd = 0
        · by_cases he : ms = bo.length
          · simp [hc, he]
          · simp [hc, he]
        · simp [hc]
end Go.Proofs.Ytmnmonmbdgedbaa
