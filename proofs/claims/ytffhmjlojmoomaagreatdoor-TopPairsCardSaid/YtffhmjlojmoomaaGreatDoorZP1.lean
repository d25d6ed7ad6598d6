/- What a charset lists, plain: each listed code's sign has this code's bytes. | What a charset lists, plain: the other charsets. -/
import Derived.Test.YtffhmjlojmoomaaGreatDoorZW17
import Derived.Test.YtffhmjlojmoomaaGreatDoorZT1
import Derived.Test.YtffhmjlojmoomaaGreatDoorZC6

namespace Go.Proofs.YtffhmjlojmoomaaGreatDoor
open Go.RowKit
set_option linter.unusedVariables false
set_option linter.unusedSimpArgs false

/-- a code as bytes -/
def bts (c k : Nat) : List UInt8 := if c < 4 then [UInt8.ofNat k] else bigL k 2
structure PairsOk (C : Cst) (c : Nat) (L : List (Nat × Nat)) : Prop where
  many : 200 < L.length
  few : L.length ≤ 2000000
  ok : ∀ x ∈ L, Sc x.2 ∧ x.1 < 65536 ∧ (c < 4 → x.1 < 256) ∧ encP C c [x.2] = some (bts c x.1)
  codes : (L.map (·.1)).Nodup
theorem PairsOk.perm {C : Cst} {c : Nat} {L L' : List (Nat × Nat)} (h : PairsOk C c L) (hp : L'.Perm L) : PairsOk C c L' :=
  ⟨by rw [hp.length_eq]; exact h.many, by rw [hp.length_eq]; exact h.few, fun x hx => h.ok x (hp.mem_iff.1 hx), (hp.map _).nodup_iff.2 h.codes⟩
theorem bts_inj {c k k' : Nat} (h1 : k < 65536) (h2 : k' < 65536) (h3 : c < 4 → k < 256) (h4 : c < 4 → k' < 256) (h : bts c k = bts c k') : k = k' := by
  unfold bts at h
  split at h
  · rename_i hc
    have h5 := h3 hc
    have h6 := h4 hc
    have := congrArg UInt8.toNat (List.cons.inj h).1
    rw [UInt8.toNat_ofNat', UInt8.toNat_ofNat', Nat.mod_eq_of_lt h5, Nat.mod_eq_of_lt h6] at this
    exact this
  · rw [bigL_two, bigL_two] at h
    have e1 := congrArg UInt8.toNat (List.cons.inj h).1
    have e2 := congrArg UInt8.toNat (List.cons.inj (List.cons.inj h).2).1
    rw [bigL_hi h1, bigL_hi h2] at e1
    rw [bigL_lo, bigL_lo] at e2
    omega
theorem PairsOk.points {C : Cst} {c : Nat} {L : List (Nat × Nat)} (h : PairsOk C c L) : (L.map (·.2)).Nodup := by
  have hc := h.codes
  rw [List.Nodup, List.pairwise_map] at hc ⊢
  refine List.Pairwise.imp_of_mem ?_ hc
  intro x y hx hy hne e
  obtain ⟨-, a1, a2, a3⟩ := h.ok x hx
  obtain ⟨-, b1, b2, b3⟩ := h.ok y hy
  rw [e, b3] at a3
  exact hne (bts_inj b1 a1 b2 a2 (Option.some.inj a3)).symm
theorem prsFrom_mem {f : Nat → Option Nat} {a n : Nat} {x : Nat × Nat} : x ∈ prsFrom f a n ↔ a ≤ x.1 ∧ x.1 < a + n ∧ f x.1 = some x.2 := by
  unfold prsFrom
  rw [List.mem_filterMap]
  constructor
  · rintro ⟨c, hc, h⟩
    have h1 := List.mem_range'_1.1 hc
    obtain ⟨p, hp, rfl⟩ := Option.map_eq_some_iff.1 h
    exact ⟨h1.1, h1.2, hp⟩
  · rintro ⟨h1, h2, h3⟩
    exact ⟨x.1, List.mem_range'_1.2 ⟨h1, h2⟩, by rw [h3]; rfl⟩
theorem prsFrom_codes (f : Nat → Option Nat) (a n : Nat) : ((prsFrom f a n).map (·.1)).Nodup := by
  rw [List.Nodup, List.pairwise_map]
  unfold prsFrom
  rw [List.pairwise_filterMap]
  refine List.Pairwise.imp ?_ (List.pairwise_lt_range' (s := a) (n := n))
  intro c d hcd x hx y hy
  obtain ⟨p, -, rfl⟩ := Option.map_eq_some_iff.1 hx
  obtain ⟨q, -, rfl⟩ := Option.map_eq_some_iff.1 hy
  simp only
  omega
theorem encP_hi {C : Cst} {c k p : Nat} (hc : c = 4 ∨ c = 5) (hp : 128 ≤ p) (hb : btC C c p = bigL k 2) : encP C c [p] = some (bts c k) := by
  rw [encP_two hc]
  unfold encT
  rw [if_neg (by omega), hb, if_neg (by rw [bigL_two]; simp)]
  unfold bts
  rw [if_neg (by omega)]
  simp [encT]
/-- Johab -/
def jfn (n : Nat) : Option Nat := jSign (n : Int)
set_option maxRecDepth 100000 in
theorem jfn_many : 200 < (prsFrom jfn 34816 1024).length := by decide +kernel
theorem jPairs_ok (C : Cst) : PairsOk C 5 (prsFrom jfn 32768 32768) := by
  refine ⟨?_, Nat.le_trans (prsFrom_len _ _ _) (by decide), fun x hx => ?_, prsFrom_codes _ _ _⟩
  · have e : (32768 : Nat) = 2048 + (1024 + 29696) := by rfl
    rw [show prsFrom jfn 32768 32768 = prsFrom jfn 32768 (2048 + (1024 + 29696)) from rfl, prsFrom_app, prsFrom_app]
    simp only [List.length_append]
    have := jfn_many
    rw [show 34816 = 32768 + 2048 by rfl] at this
    omega
  · obtain ⟨h1, h2, h3⟩ := prsFrom_mem.1 hx
    have h4 : jSign (x.1 : Int) = some x.2 := h3
    obtain ⟨-, h5⟩ := jSign_bytes (by omega) h4
    obtain ⟨h6, h7⟩ := jSign_sc (by omega) h4
    refine ⟨by unfold Sc; omega, by omega, fun h => by omega, encP_hi (.inr rfl) h6 ?_⟩
    show jTxt x.2 = bigL x.1 2
    unfold jTxt
    rw [h5]
    rfl
/-- wansung -/
theorem pieF_at {L : List Pie} (hL : ∀ p ∈ L, p.tx = []) {k q : Nat} (h : pieF L k = some q) : ∃ p ∈ L, p.fr ≤ k ∧ k < p.fr + p.ct ∧ q = p.tp + (k - p.fr) := by
  unfold pieF at h
  obtain ⟨p, hp, h1⟩ := List.exists_of_findSome?_eq_some h
  have ht := hL p hp
  split at h1
  · rename_i hc
    unfold pieN at hc
    rw [if_pos ht] at hc
    unfold pieS at h1
    rw [if_pos ht, List.getElem?_map, List.getElem?_range (by omega)] at h1
    exact ⟨p, hp, hc.1, hc.2, (Option.some.inj h1).symm⟩
  · cases h1
def wCheck (C : Cst) : Bool := (wPies C).all (fun p => (List.range p.ct).all (fun i => (bytesW C (p.tp + i) == some (p.fr + i)) && (decide (p.tp + i < 44032) || decide (55203 < p.tp + i))))
set_option maxRecDepth 100000 in
theorem wCheck_all : ∀ l m n, l = unT ((textsOf Tryz.f104).getD 0 []) → m = unT ((textsOf Tryz.f104).getD 1 []) → n = unT ((textsOf Tryz.f104).getD 2 []) → wCheck ⟨[], [], [], l, m, n, [], []⟩ = true := by
  intro l m n h1 h2 h3
  subst h1 h2 h3
  decide +kernel
end Go.Proofs.YtffhmjlojmoomaaGreatDoor

namespace Go.Proofs.YtffhmjlojmoomaaGreatDoor
open Go.RowKit
set_option linter.unusedVariables false
set_option linter.unusedSimpArgs false

theorem lis_un {C : Cst} (hC : CstOk C) : C.wA1 = unT ((textsOf Tryz.f104).getD 0 []) ∧ C.wA2 = unT ((textsOf Tryz.f104).getD 1 []) ∧ C.wA6 = unT ((textsOf Tryz.f104).getD 2 []) := by
  obtain ⟨-, -, -, h4⟩ := hC.wL
  rw [hC.wE]
  refine ⟨(unT_listT _ fun n hn => ?_).symm, (unT_listT _ fun n hn => ?_).symm, (unT_listT _ fun n hn => ?_).symm⟩
  · have := h4 n (by simp [hn]); omega
  · have := h4 n (by simp [hn]); omega
  · have := h4 n (by simp [hn]); omega
theorem bytesW_low {C D : Cst} (h1 : C.wA1 = D.wA1) (h2 : C.wA2 = D.wA2) (h6 : C.wA6 = D.wA6) {p : Nat} (hp : p < 44032 ∨ 55203 < p) : bytesW C p = bytesW D p := by
  have hl : ∀ x, lisW C x = lisW D x := fun x => by unfold lisW; rw [h1, h2, h6]
  have ho : ocW C p = ocW D p := by
    have hli : ∀ lead, liW C p lead = liW D p lead := fun lead => by unfold liW; rw [hl]
    have hf : ∀ n lead, ocF C p n lead = ocF D p n lead := by
      intro n
      induction n with
      | zero => intro lead; rfl
      | succ n ih =>
        intro lead
        unfold ocF
        rw [hli, ih]
    unfold ocW
    rw [hf]
  unfold bytesW
  rw [if_neg (by omega), if_neg (by omega), ho]
theorem wPies_low {C D : Cst} (h1 : C.wA1 = D.wA1) (h2 : C.wA2 = D.wA2) (h6 : C.wA6 = D.wA6) : wPies C = wPies D := by
  have hl : ∀ x, lisW C x = lisW D x := fun x => by unfold lisW; rw [h1, h2, h6]
  unfold wPies wPre
  simp only [hl]
theorem wPairs_code {C : Cst} (hC : CstOk C) {k p : Nat} (h : pieF (wPies C) k = some p) : bytesW C p = some k := by
  obtain ⟨e1, e2, e3⟩ := lis_un hC
  have hc := wCheck_all _ _ _ e1 e2 e3
  obtain ⟨q, hq, h1, h2, h3⟩ := pieF_at (fun q hq => (wPies_mem hC q hq).1) h
  rw [wPies_low (C := C) (D := ⟨[], [], [], C.wA1, C.wA2, C.wA6, [], []⟩) rfl rfl rfl] at hq
  unfold wCheck at hc
  have h4 := List.all_eq_true.1 hc q hq
  have h5 := List.all_eq_true.1 h4 (k - q.fr) (List.mem_range.2 (by omega))
  simp only [Bool.and_eq_true, Bool.or_eq_true, decide_eq_true_eq, beq_iff_eq] at h5
  obtain ⟨h6, h7⟩ := h5
  rw [← h3] at h6 h7
  rw [bytesW_low (C := C) (D := ⟨[], [], [], C.wA1, C.wA2, C.wA6, [], []⟩) rfl rfl rfl h7, h6]
  congr 1
  omega
theorem wPairs_ok {C : Cst} (hC : CstOk C) : PairsOk C 4 (prsFrom (pieF (wPies C)) 0 1048576) := by
  refine ⟨wPairs_many hC, Nat.le_trans (prsFrom_len _ _ _) (by decide), fun x hx => ?_, prsFrom_codes _ _ _⟩
  obtain ⟨-, -, h3⟩ := prsFrom_mem.1 hx
  have h4 := wPairs_code hC h3
  obtain ⟨h5, h6, h7⟩ := bytesW_sign hC _ _ h4
  obtain ⟨h8, h9⟩ := signW_sc hC h7
  refine ⟨h8, h5, fun h => by omega, encP_hi (.inl rfl) h9 ?_⟩
  show wTxt C x.2 = bigL x.1 2
  unfold wTxt
  rw [h4]
/-- Big5 -/
def bPrs (S : List ((Nat × Nat) × List Nat)) : List (Nat × Nat) := S.flatMap (fun x => (List.range x.2.length).map (fun (k : Nat) => (x.1.1 * 256 + (secB (cellB x.1.2 + (k : Int))).toNat, x.2.getD k 0)))
/-- no number stands twice: acc has the bits of those that were met -/
def nd : Nat → List Nat → Bool
  | _, [] => true
  | acc, p :: l => if Nat.testBit acc p = true then false else nd (acc ||| 2 ^ p) l
theorem nd_nodup : ∀ (l : List Nat) (acc : Nat), nd acc l = true → l.Nodup ∧ ∀ p ∈ l, acc.testBit p = false
  | [], _, _ => ⟨List.Pairwise.nil, fun p hp => by cases hp⟩
  | p :: l, acc, h => by
    unfold nd at h
    split at h
    · cases h
    · rename_i hb
      obtain ⟨h1, h2⟩ := nd_nodup l _ h
      have hb' : acc.testBit p = false := by simpa using hb
      refine ⟨List.nodup_cons.2 ⟨fun hm => ?_, h1⟩, fun q hq => ?_⟩
      · have := h2 p hm
        rw [Nat.testBit_or, Nat.testBit_two_pow_self] at this
        simp at this
      · rcases List.mem_cons.1 hq with rfl | hq
        · exact hb'
        · have := h2 q hq
          rw [Nat.testBit_or] at this
          simp only [Bool.or_eq_false_iff] at this
          exact this.1
/-- rising numbers -/
def inc : List Nat → Bool
  | a :: b :: l => decide (a < b) && inc (b :: l)
  | _ => true
theorem inc_lt : ∀ (l : List Nat), inc l = true → l.Pairwise (· < ·)
  | [], _ => List.Pairwise.nil
  | [a], _ => List.pairwise_singleton _ _
  | a :: b :: l, h => by
    unfold inc at h
    simp only [Bool.and_eq_true, decide_eq_true_eq] at h
    have ih := inc_lt (b :: l) h.2
    refine List.pairwise_cons.2 ⟨fun c hc => ?_, ih⟩
    rcases List.mem_cons.1 hc with rfl | hc
    · exact h.1
    · have := (List.pairwise_cons.1 ih).1 c hc
      omega
def bCheck (S : List ((Nat × Nat) × List Nat)) : Bool := nd 0 (S.flatMap (·.2)) && inc ((bPrs S).map (·.1)) && decide (200 < (bPrs S).length) && decide ((bPrs S).length ≤ 2000000)
set_option maxRecDepth 100000 in
theorem bCheck_all : ∀ l, l = (textsOf Tryz.f63).map unT → bCheck (List.zip hdB l) = true := by
  intro l h
  subst h
  decide +kernel
theorem bPrs_span : ∀ (S : List ((Nat × Nat) × List Nat)), (S.flatMap (·.2)).Nodup → ∀ x ∈ bPrs S, x.2 ∈ S.flatMap (·.2) ∧ spanG x.2 S = some x.1
  | [], _, x, hx => by cases hx
  | y :: S, hn, x, hx => by
    have e0 : (y :: S).flatMap (·.2) = y.2 ++ S.flatMap (·.2) := by simp
    rw [e0] at hn ⊢
    obtain ⟨n1, n2, n3⟩ := List.nodup_append.1 hn
    have e1 : bPrs (y :: S) = (List.range y.2.length).map (fun (k : Nat) => (y.1.1 * 256 + (secB (cellB y.1.2 + (k : Int))).toNat, y.2.getD k 0)) ++ bPrs S := by simp [bPrs]
    rw [e1] at hx
    unfold spanG
    rcases List.mem_append.1 hx with hx | hx
    · obtain ⟨k, hk, rfl⟩ := List.mem_map.1 hx
      have hk := List.mem_range.1 hk
      have e2 : y.2.getD k 0 = y.2[k] := by rw [List.getD_eq_getElem?_getD, List.getElem?_eq_getElem hk]; rfl
      simp only [e2]
      have hf : y.2.findIdx? (· == y.2[k]) = some k := by
        rw [List.findIdx?_eq_some_iff_getElem]
        refine ⟨hk, by simp, fun j hj => ?_⟩
        have := List.pairwise_iff_getElem.1 n1 j k (by omega) hk hj
        simpa using this
      rw [hf]
      exact ⟨List.mem_append_left _ (List.getElem_mem hk), rfl⟩
    · obtain ⟨h1, h2⟩ := bPrs_span S n2 x hx
      have hno : x.2 ∉ y.2 := fun hm => n3 _ hm _ h1 rfl
      have hf : y.2.findIdx? (· == x.2) = none := by
        rw [List.findIdx?_eq_none_iff]
        intro z hz
        simp only [beq_eq_false_iff_ne]
        intro e
        exact hno (e ▸ hz)
      rw [hf]
      exact ⟨List.mem_append_right _ h1, h2⟩
theorem b5_un {C : Cst} (hC : CstOk C) : C.b5 = (textsOf Tryz.f63).map unT := by
  rw [hC.b5E, List.map_map]
  symm
  exact (List.map_congr_left (f := unT ∘ listT) (g := id) (fun l hl => unT_listT l (fun n hn => (hC.b5M l hl n hn).2.1))).trans (List.map_id _)
theorem bPairs_ok {C : Cst} (hC : CstOk C) : PairsOk C 6 (bPrs (spB C)) := by
  have hc : bCheck (spB C) = true := bCheck_all _ (b5_un hC)
  unfold bCheck at hc
  simp only [Bool.and_eq_true, decide_eq_true_eq] at hc
  obtain ⟨⟨⟨h1, h4⟩, h2⟩, h3⟩ := hc
  refine ⟨h2, h3, fun x hx => ?_, List.Pairwise.imp (fun h => Nat.ne_of_lt h) (inc_lt _ h4)⟩
  have h6 := (bPrs_span _ (nd_nodup _ _ h1).1 x hx).2
  have hb : bytB C x.2 [] = some (x.1, 1) := by
    unfold bytB
    rw [show twG x.2 [] twB = none by
      unfold twB
      simp [twG]]
    simp only
    rw [h6]
    rfl
  obtain ⟨k1, k2, ⟨-, k3⟩ | ⟨e, -⟩⟩ := bytB_sign hC _ _ _ _ hb
  · obtain ⟨-, k4⟩ := sgB_sc hC k3
    obtain ⟨k5, k6⟩ := k4 x.2 (by simp)
    refine ⟨k5, k1, fun h => by omega, ?_⟩
    rw [encP_six, encG_one (by omega) (n := 1) hb (.inl (by decide))]
    unfold bts
    rw [if_neg (by omega)]
    simp [encG]
  · cases e
/-- the charsets of bytes -/
theorem prs_back {f : Nat → Option Nat} {n : Nat} (hn : ((prs f n).map (·.2)).Nodup) {x : Nat × Nat} (hx : x ∈ prs f n) : rev f n x.2 = some x.1 := by
  obtain ⟨h1, h2⟩ := prs_mem hx
  rcases hr : rev f n x.2 with _ | c
  · unfold rev at hr
    rw [List.find?_eq_none] at hr
    have := hr x.1 (List.mem_range.2 h1)
    simp [h2] at this
  · obtain ⟨h3, h4⟩ := rev_some hr
    have hm : (c, x.2) ∈ prs f n := prsFrom_mem.2 ⟨Nat.zero_le _, by omega, h4⟩
    rw [List.Nodup, List.pairwise_map] at hn
    obtain ⟨i, hi, e1⟩ := List.getElem_of_mem hm
    obtain ⟨j, hj, e2⟩ := List.getElem_of_mem hx
    have key := List.pairwise_iff_getElem.1 hn
    rcases Nat.lt_trichotomy i j with h | h | h
    · exact absurd (by rw [e1, e2]) (key i j hi hj h)
    · subst h
      rw [e1] at e2
      rw [← e2]
    · exact absurd (by rw [e1, e2]) (key j i hj hi h)
def sCheck (f : Nat → Option Nat) : Bool := decide (((prs f 256).map (·.2)).Nodup) && decide (200 < (prs f 256).length)
set_option maxRecDepth 100000 in
theorem sCheck_all : ∀ k a b, k = unT ((textsOf Tryz.f43).getD 0 []) → a = unT ((textsOf Tryz.f45).getD 0 []) → b = unT ((textsOf Tryz.f45).getD 1 []) → ∀ c : Fin 4, sCheck (chF ⟨k, a, b, [], [], [], [], []⟩ c.val) = true := by
  intro k a b h1 h2 h3
  subst h1 h2 h3
  decide +kernel
theorem chF_low {C D : Cst} (h1 : C.koi = D.koi) (h2 : C.cpB = D.cpB) (h3 : C.cpF = D.cpF) (c : Nat) : chF C c = chF D c := by
  unfold chF
  split
  · rfl
  · unfold koiP; rw [h1]
  · unfold koiP; rw [h1]
  · unfold altP; rw [h2, h3]
theorem sPairs_ok {C : Cst} (hC : CstOk C) (c : Nat) (hc : c < 4) : PairsOk C c (prs (chF C c) 256) := by
  have e1 : C.koi = unT ((textsOf Tryz.f43).getD 0 []) := by rw [hC.koiE, unT_listT _ (fun n hn => by have := hC.koiL.2 n hn; omega)]
  have e2 : C.cpB = unT ((textsOf Tryz.f45).getD 0 []) := by rw [hC.cpBE, unT_listT _ (fun n hn => by have := hC.cpBL.2 n hn; omega)]
  have e3 : C.cpF = unT ((textsOf Tryz.f45).getD 1 []) := by rw [hC.cpFE, unT_listT _ (fun n hn => by have := hC.cpFL.2 n hn; omega)]
  have hk := sCheck_all _ _ _ e1 e2 e3 ⟨c, hc⟩
  simp only at hk
  have he : chF ⟨C.koi, C.cpB, C.cpF, [], [], [], [], []⟩ c = chF C c := chF_low rfl rfl rfl c
  rw [he] at hk
  unfold sCheck at hk
  simp only [Bool.and_eq_true, decide_eq_true_eq] at hk
  refine ⟨hk.2, Nat.le_trans (prs_len _ _) (by decide), fun x hx => ?_, prsFrom_codes _ _ _⟩
  obtain ⟨h1, h2⟩ := prs_mem hx
  refine ⟨chF_sc hC c _ _ h2, by omega, fun _ => h1, ?_⟩
  rw [encP_lt hc]
  unfold encS
  rw [prs_back hk.1 hx]
  unfold bts
  rw [if_pos hc]
  rfl
end Go.Proofs.YtffhmjlojmoomaaGreatDoor
