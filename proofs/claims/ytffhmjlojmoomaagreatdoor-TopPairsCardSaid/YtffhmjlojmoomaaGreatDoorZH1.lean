/- Lists of signs in base sixteen (plain): four digits and a blank each; where one stands. | Layer 6 (johab), plain: codes and signs lead to one another. | Layer 7 (wansung), plain: bits in groups; which is the k-th of them (rank and choice). -/
import Derived.WalkKit
import Derived.Lib.IndexLaws

namespace Go.Proofs.YtffhmjlojmoomaaGreatDoor
set_option linter.unusedVariables false
set_option linter.unusedSimpArgs false

def hx (d : Nat) : UInt8 := if d < 10 then UInt8.ofNat (48 + d) else UInt8.ofNat (55 + d)
def unhx (c : UInt8) : Nat := if c.toNat < 58 then c.toNat - 48 else c.toNat - 55
def hexL : List UInt8 := [48, 49, 50, 51, 52, 53, 54, 55, 56, 57, 65, 66, 67, 68, 69, 70]
def cellT (n : Nat) : List UInt8 := [hx (n / 4096), hx (n / 256 % 16), hx (n / 16 % 16), hx (n % 16), 32]
def listT (ns : List Nat) : List UInt8 := (ns.map cellT).flatten
def unT : List UInt8 → List Nat
  | a :: b :: c :: d :: _ :: r => (unhx a * 4096 + unhx b * 256 + unhx c * 16 + unhx d) :: unT r
  | _ => []
theorem hx_get : ∀ d : Fin 16, hexL[d.val]? = some (hx d.val) := by decide
theorem hx_ne : ∀ d : Fin 16, hx d.val ≠ 32 := by decide
theorem hx_inj : ∀ d e : Fin 16, hx d.val = hx e.val → d = e := by decide
theorem hx_unhx : ∀ d : Fin 16, unhx (hx d.val) = d.val := by decide
theorem hx_low : ∀ d : Fin 16, (hx d.val).toNat < 128 := by decide
theorem hx_ne' {d : Nat} (h : d < 16) : (hx d == 32) = false ∧ ((32 : UInt8) == hx d) = false := by
  have := hx_ne ⟨d, h⟩
  simp only at this
  constructor
  · rw [beq_eq_false_iff_ne]; exact this
  · rw [beq_eq_false_iff_ne]; exact fun e => this e.symm
theorem hx_inj' {d e : Nat} (hd : d < 16) (he : e < 16) (h : hx d = hx e) : d = e := congrArg Fin.val (hx_inj ⟨d, hd⟩ ⟨e, he⟩ h)
theorem cell_inj {n p : Nat} (hn : n < 65536) (hp : p < 65536) (h : cellT n = cellT p) : n = p := by
  unfold cellT at h
  injection h with h1 h
  injection h with h2 h
  injection h with h3 h
  injection h with h4 h
  have e1 := hx_inj' (by omega) (by omega) h1
  have e2 := hx_inj' (by omega) (by omega) h2
  have e3 := hx_inj' (by omega) (by omega) h3
  have e4 := hx_inj' (by omega) (by omega) h4
  omega
theorem cell_len (n : Nat) : (cellT n).length = 5 := rfl
theorem listT_len : ∀ ns : List Nat, (listT ns).length = 5 * ns.length
  | [] => rfl
  | n :: ns => by
    have := listT_len ns
    show (cellT n ++ listT ns).length = _
    rw [List.length_append, this, List.length_cons, cell_len]
    omega
theorem listT_cons (n : Nat) (ns : List Nat) : listT (n :: ns) = cellT n ++ listT ns := rfl
theorem listT_app (a b : List Nat) : listT (a ++ b) = listT a ++ listT b := by
  unfold listT
  rw [List.map_append, List.flatten_append]
theorem listT_get (ns : List Nat) (k j : Nat) (hk : k < ns.length) (hj : j < 5) : (listT ns)[5 * k + j]? = (cellT ns[k])[j]? := by
  induction ns generalizing k with
  | nil => simp at hk
  | cons n ns ih =>
    rw [listT_cons]
    rcases k with _ | k
    · rw [List.getElem?_append_left (by rw [cell_len]; omega)]
      simp
    · rw [List.getElem?_append_right (by rw [cell_len]; omega), cell_len, show 5 * (k + 1) + j - 5 = 5 * k + j by omega]
      exact ih k (by simpa using hk)
theorem occ_off {n p : Nat} {r : List UInt8} (hn : n < 65536) (hp : p < 65536) {j : Nat} (h1 : 1 ≤ j) (h2 : j < 5) : Lib.occAt (cellT n ++ r) (cellT p) j = false := by
  have a0 := (hx_ne' (d := p / 4096) (by omega)).1
  have a1 := (hx_ne' (d := p / 256 % 16) (by omega)).1
  have a2 := (hx_ne' (d := p / 16 % 16) (by omega)).1
  have a3 := (hx_ne' (d := p % 16) (by omega)).1
  unfold Lib.occAt cellT
  match j, h1, h2 with
  | 1, _, _ => simp [List.isPrefixOf, a3]
  | 2, _, _ => simp [List.isPrefixOf, a2]
  | 3, _, _ => simp [List.isPrefixOf, a1]
  | 4, _, _ => simp [List.isPrefixOf, a0]
theorem occ_at {n p : Nat} {r : List UInt8} (hn : n < 65536) (hp : p < 65536) : Lib.occAt (cellT n ++ r) (cellT p) 0 = (n == p) := by
  unfold Lib.occAt
  rw [List.drop_zero]
  by_cases h : n = p
  · subst h
    rw [beq_self_eq_true]
    rw [List.isPrefixOf_iff_prefix]
    exact ⟨r, rfl⟩
  · rw [beq_false_of_ne h]
    rw [Bool.eq_false_iff]
    intro hh
    rw [List.isPrefixOf_iff_prefix] at hh
    obtain ⟨t, ht⟩ := hh
    exact h (cell_inj hn hp (List.append_inj_left ht.symm rfl))
/-- where a sign stands in a list -/
theorem index_list (ns : List Nat) (p : Nat) (hp : p < 65536) (h : ∀ n ∈ ns, n < 65536) : Lib.index (listT ns) (cellT p) = match ns.findIdx? (· == p) with | some k => ((5 * k : Nat) : Int) | none => -1 := by
  induction ns with
  | nil => rfl
  | cons n ns ih =>
    have hn := h n List.mem_cons_self
    have ih := ih (fun q hq => h q (List.mem_cons_of_mem _ hq))
    rw [List.findIdx?_cons, listT_cons]
    by_cases hnp : n = p
    · have e := occ_at (r := listT ns) hn hp
      rw [hnp] at e ⊢
      rw [beq_self_eq_true] at e
      rw [if_pos (by simp)]
      exact Lib.index_first (i := 0) (by omega) e (fun j hj => absurd hj (by omega))
    · have e := occ_at (r := listT ns) hn hp
      rw [beq_false_of_ne hnp] at e
      rw [if_neg (by simpa using hnp)]
      have hno : Lib.NoOcc (cellT n ++ listT ns) (cellT p) 5 := by
        intro j hj
        rcases j with _ | j
        · exact e
        · exact occ_off hn hp (by omega) hj
      rw [Lib.index_drop hno (by rw [List.length_append, cell_len]; omega), List.drop_left' (cell_len n), ih]
      rcases ns.findIdx? (· == p) with _ | k
      · rfl
      · simp only [Option.map_some]
        rw [if_neg (by simp; omega)]
        have e5 : ((5 * (k + 1) : Nat) : Int) = ((5 * k : Nat) : Int) + 5 := by omega
        exact e5.symm
end Go.Proofs.YtffhmjlojmoomaaGreatDoor

namespace Go.Proofs.YtffhmjlojmoomaaGreatDoor
set_option linter.unusedVariables false
set_option linter.unusedSimpArgs false

def jIni (c : Int) : Int × Bool := if c = 1 then (-1, true) else if 2 ≤ c ∧ c ≤ 20 then (c - 2, true) else (0, false)
def jMed (c : Int) : Int × Bool := if c = 2 then (-1, true) else if 3 ≤ c ∧ c ≤ 7 then (c - 3, true) else if 10 ≤ c ∧ c ≤ 15 then (c - 5, true) else if 18 ≤ c ∧ c ≤ 23 then (c - 7, true) else if 26 ≤ c ∧ c ≤ 29 then (c - 9, true) else (0, false)
def jFin (c : Int) : Int × Bool := if 1 ≤ c ∧ c ≤ 17 then (c - 1, true) else if 19 ≤ c ∧ c ≤ 29 then (c - 2, true) else (0, false)
def jMc (m : Int) : Int := if m = -1 then 2 else if m ≤ 4 then m + 3 else if m ≤ 10 then m + 5 else if m ≤ 16 then m + 7 else m + 9
def jFc (f : Int) : Int := if f ≤ 16 then f + 1 else f + 2
def jCode (i m f : Int) : Int := 32768 + (i + 2) * 1024 + jMc m * 32 + jFc f
/-- the consonants that stand alone -/
def jAlone : List UInt8 := [65, 66, 100, 67, 102, 103, 68, 69, 70, 106, 107, 108, 109, 110, 111, 112, 71, 72, 73, 115, 74, 75, 76, 77, 78, 79, 80, 81, 82, 83]
def jCon (c : Nat) : Option Nat := (jAlone.findIdx? (fun x => x.toNat == c)).map (12593 + ·)
def jSyl (i m f : Int) : Int := 44032 + (i * 21 + m) * 28 + f
/-- the sign of three parts -/
def jOf (i m f : Int) : Option Nat :=
  if i ≠ -1 ∧ m ≠ -1 then some (jSyl i m f).toNat
  else if i = -1 ∧ m ≠ -1 ∧ f = 0 then some (12623 + m).toNat
  else if i ≠ -1 ∧ m = -1 ∧ f = 0 then jCon (65 + i).toNat
  else if i = -1 ∧ m = -1 ∧ f ≠ 0 then jCon (97 + f).toNat
  else none
def jSign (n : Int) : Option Nat :=
  if 32768 ≤ n ∧ (jIni (n / 1024 % 32)).2 = true ∧ (jMed (n / 32 % 32)).2 = true ∧ (jFin (n % 32)).2 = true then jOf (jIni (n / 1024 % 32)).1 (jMed (n / 32 % 32)).1 (jFin (n % 32)).1 else none
/-- the parts of a sign -/
def jParts (p : Nat) : Option (Int × Int × Int) :=
  if 44032 ≤ p ∧ p < 55204 then some (((p - 44032) / 28 / 21 : Nat), ((p - 44032) / 28 % 21 : Nat), ((p - 44032) % 28 : Nat))
  else if 12623 ≤ p ∧ p < 12644 then some (-1, (p - 12623 : Nat), 0)
  else if 12593 ≤ p ∧ p - 12593 < 30 then
    (if (jAlone.getD (p - 12593) 0).toNat < 97 then some (((jAlone.getD (p - 12593) 0).toNat - 65 : Nat), -1, 0) else some (-1, -1, ((jAlone.getD (p - 12593) 0).toNat - 97 : Nat)))
  else none
def jBytes (p : Nat) : Option Int := (jParts p).map (fun x => jCode x.1 x.2.1 x.2.2)
theorem jIni_inv (i : Int) (h1 : -1 ≤ i) (h2 : i ≤ 18) : jIni (i + 2) = (i, true) := by
  unfold jIni
  by_cases h : i = -1
  · subst h; rfl
  · rw [if_neg (by omega), if_pos (by omega)]
    congr 1
    omega
theorem jMed_inv (m : Int) (h1 : -1 ≤ m) (h2 : m ≤ 20) : jMed (jMc m) = (m, true) ∧ 0 ≤ jMc m ∧ jMc m < 32 := by
  have h : ∀ k : Fin 22, jMed (jMc ((k.val : Int) - 1)) = ((k.val : Int) - 1, true) ∧ 0 ≤ jMc ((k.val : Int) - 1) ∧ jMc ((k.val : Int) - 1) < 32 := by decide
  have := h ⟨(m + 1).toNat, by omega⟩
  rwa [show (((m + 1).toNat : Nat) : Int) - 1 = m by omega] at this
theorem jFin_inv (f : Int) (h1 : 0 ≤ f) (h2 : f ≤ 27) : jFin (jFc f) = (f, true) ∧ 0 ≤ jFc f ∧ jFc f < 32 := by
  have h : ∀ k : Fin 28, jFin (jFc (k.val : Int)) = ((k.val : Int), true) ∧ 0 ≤ jFc (k.val : Int) ∧ jFc (k.val : Int) < 32 := by decide
  have := h ⟨f.toNat, by omega⟩
  rwa [show ((f.toNat : Nat) : Int) = f by omega] at this
theorem jIni_of (c : Int) (h1 : 0 ≤ c) (h2 : c < 32) (h : (jIni c).2 = true) : -1 ≤ (jIni c).1 ∧ (jIni c).1 ≤ 18 ∧ (jIni c).1 + 2 = c := by
  revert h
  unfold jIni
  split
  · intro _; simp; omega
  · split
    · intro _; simp; omega
    · intro h; cases h
theorem jMed_of (c : Int) (h1 : 0 ≤ c) (h2 : c < 32) (h : (jMed c).2 = true) : -1 ≤ (jMed c).1 ∧ (jMed c).1 ≤ 20 ∧ jMc (jMed c).1 = c := by
  have hh : ∀ k : Fin 32, (jMed (k.val : Int)).2 = true → -1 ≤ (jMed (k.val : Int)).1 ∧ (jMed (k.val : Int)).1 ≤ 20 ∧ jMc (jMed (k.val : Int)).1 = (k.val : Int) := by decide
  have := hh ⟨c.toNat, by omega⟩
  rw [show ((c.toNat : Nat) : Int) = c by omega] at this
  exact this h
theorem jFin_of (c : Int) (h1 : 0 ≤ c) (h2 : c < 32) (h : (jFin c).2 = true) : 0 ≤ (jFin c).1 ∧ (jFin c).1 ≤ 27 ∧ jFc (jFin c).1 = c := by
  have hh : ∀ k : Fin 32, (jFin (k.val : Int)).2 = true → 0 ≤ (jFin (k.val : Int)).1 ∧ (jFin (k.val : Int)).1 ≤ 27 ∧ jFc (jFin (k.val : Int)).1 = (k.val : Int) := by decide
  have := hh ⟨c.toNat, by omega⟩
  rw [show ((c.toNat : Nat) : Int) = c by omega] at this
  exact this h
theorem jCon_some {c p : Nat} (h : jCon c = some p) : 12593 ≤ p ∧ p - 12593 < 30 ∧ (jAlone.getD (p - 12593) 0).toNat = c := by
  unfold jCon at h
  obtain ⟨k, hk, rfl⟩ := Option.map_eq_some_iff.1 h
  rw [List.findIdx?_eq_some_iff_getElem] at hk
  obtain ⟨hk1, hk2, -⟩ := hk
  have hl : jAlone.length = 30 := rfl
  refine ⟨by omega, by omega, ?_⟩
  rw [show 12593 + k - 12593 = k by omega, List.getD_eq_getElem?_getD, List.getElem?_eq_getElem hk1]
  simpa using hk2
theorem jCon_back : ∀ k : Fin 30, jCon (jAlone.getD k.val 0).toNat = some (12593 + k.val) := by decide
theorem jAlone_in : ∀ k : Fin 30, (65 ≤ (jAlone.getD k.val 0).toNat ∧ (jAlone.getD k.val 0).toNat ≤ 83) ∨ (98 ≤ (jAlone.getD k.val 0).toNat ∧ (jAlone.getD k.val 0).toNat ≤ 124) := by decide
theorem jParts_in {p : Nat} {i m f : Int} (h : jParts p = some (i, m, f)) : -1 ≤ i ∧ i ≤ 18 ∧ -1 ≤ m ∧ m ≤ 20 ∧ 0 ≤ f ∧ f ≤ 27 ∧ jOf i m f = some p := by
  unfold jParts at h
  split at h
  · rename_i h1
    injection h with h
    injection h with e1 h
    injection h with e2 e3
    subst e1 e2 e3
    refine ⟨by omega, by omega, by omega, by omega, by omega, by omega, ?_⟩
    unfold jOf
    rw [if_pos (by omega)]
    unfold jSyl
    refine congrArg some ?_
    omega
  · split at h
    · rename_i h1 h2
      injection h with h
      injection h with e1 h
      injection h with e2 e3
      subst e1 e2 e3
      refine ⟨by omega, by omega, by omega, by omega, by omega, by omega, ?_⟩
      unfold jOf
      rw [if_neg (by omega), if_pos (by omega)]
      refine congrArg some ?_
      omega
    · split at h
      · rename_i h1 h2 h3
        have hb := jCon_back ⟨p - 12593, h3.2⟩
        have hi := jAlone_in ⟨p - 12593, h3.2⟩
        simp only at hb hi
        generalize (jAlone.getD (p - 12593) 0).toNat = c at *
        split at h
        · injection h with h
          injection h with e1 h
          injection h with e2 e3
          subst e1 e2 e3
          refine ⟨by omega, by omega, by omega, by omega, by omega, by omega, ?_⟩
          unfold jOf
          rw [if_neg (by omega), if_neg (by omega), if_pos (by omega), show (65 + ((c - 65 : Nat) : Int)).toNat = c by omega, hb]
          refine congrArg some ?_
          omega
        · injection h with h
          injection h with e1 h
          injection h with e2 e3
          subst e1 e2 e3
          refine ⟨by omega, by omega, by omega, by omega, by omega, by omega, ?_⟩
          unfold jOf
          rw [if_neg (by omega), if_neg (by omega), if_neg (by omega), if_pos (by omega), show (97 + ((c - 97 : Nat) : Int)).toNat = c by omega, hb]
          refine congrArg some ?_
          omega
      · cases h
theorem jCode_in {i m f : Int} (h1 : -1 ≤ i) (h2 : i ≤ 18) (h3 : -1 ≤ m) (h4 : m ≤ 20) (h5 : 0 ≤ f) (h6 : f ≤ 27) : 32768 ≤ jCode i m f ∧ jCode i m f < 65536 ∧ jSign (jCode i m f) = jOf i m f := by
  obtain ⟨a1, a2, a3⟩ := jMed_inv m h3 h4
  obtain ⟨b1, b2, b3⟩ := jFin_inv f h5 h6
  have c1 := jIni_inv i h1 h2
  unfold jCode
  refine ⟨by omega, by omega, ?_⟩
  unfold jSign
  rw [show (32768 + (i + 2) * 1024 + jMc m * 32 + jFc f) / 1024 % 32 = i + 2 by omega, show (32768 + (i + 2) * 1024 + jMc m * 32 + jFc f) / 32 % 32 = jMc m by omega, show (32768 + (i + 2) * 1024 + jMc m * 32 + jFc f) % 32 = jFc f by omega, a1, b1, c1]
  rw [if_pos ⟨by omega, rfl, rfl, rfl⟩]
/-- what a sign is written as is read as this sign -/
theorem jBytes_sign {p : Nat} {c : Int} (h : jBytes p = some c) : 32768 ≤ c ∧ c < 65536 ∧ jSign c = some p := by
  unfold jBytes at h
  obtain ⟨⟨i, m, f⟩, hx, rfl⟩ := Option.map_eq_some_iff.1 h
  obtain ⟨h1, h2, h3, h4, h5, h6, h7⟩ := jParts_in hx
  obtain ⟨k1, k2, k3⟩ := jCode_in h1 h2 h3 h4 h5 h6
  exact ⟨k1, k2, k3.trans h7⟩
theorem jOf_parts {i m f : Int} {p : Nat} (h1 : -1 ≤ i) (h2 : i ≤ 18) (h3 : -1 ≤ m) (h4 : m ≤ 20) (h5 : 0 ≤ f) (h6 : f ≤ 27) (h : jOf i m f = some p) : jParts p = some (i, m, f) := by
  unfold jOf at h
  split at h
  · rename_i h7
    have h := Option.some.inj h
    unfold jSyl at h
    unfold jParts
    rw [if_pos (by omega)]
    have e1 : (((p - 44032) / 28 / 21 : Nat) : Int) = i := by omega
    have e2 : (((p - 44032) / 28 % 21 : Nat) : Int) = m := by omega
    have e3 : (((p - 44032) % 28 : Nat) : Int) = f := by omega
    rw [e1, e2, e3]
  · split at h
    · rename_i h7 h8
      have h := Option.some.inj h
      unfold jParts
      rw [if_neg (by omega), if_pos (by omega)]
      have e1 : ((p - 12623 : Nat) : Int) = m := by omega
      rw [e1, h8.1, h8.2.2]
    · split at h
      · rename_i h7 h8 h9
        obtain ⟨c1, c2, c3⟩ := jCon_some h
        unfold jParts
        rw [if_neg (by omega), if_neg (by omega), if_pos ⟨c1, c2⟩, c3, if_pos (by omega)]
        have e1 : (((65 + i).toNat - 65 : Nat) : Int) = i := by omega
        rw [e1, h9.2.1, h9.2.2]
      · split at h
        · rename_i h7 h8 h9 h10
          obtain ⟨c1, c2, c3⟩ := jCon_some h
          unfold jParts
          rw [if_neg (by omega), if_neg (by omega), if_pos ⟨c1, c2⟩, c3, if_neg (by omega)]
          have e1 : (((97 + f).toNat - 97 : Nat) : Int) = f := by omega
          rw [e1, h10.1, h10.2.1]
        · cases h
/-- what a code is read as is written as this code -/
theorem jSign_bytes {n : Int} {p : Nat} (h0 : n < 65536) (h : jSign n = some p) : 32768 ≤ n ∧ jBytes p = some n := by
  unfold jSign at h
  split at h
  · rename_i h1
    obtain ⟨h1, h2, h3, h4⟩ := h1
    obtain ⟨a1, a2, a3⟩ := jIni_of (n / 1024 % 32) (by omega) (by omega) h2
    obtain ⟨b1, b2, b3⟩ := jMed_of (n / 32 % 32) (by omega) (by omega) h3
    obtain ⟨c1, c2, c3⟩ := jFin_of (n % 32) (by omega) (by omega) h4
    refine ⟨h1, ?_⟩
    unfold jBytes
    rw [jOf_parts a1 a2 b1 b2 c1 c2 h]
    show some (jCode _ _ _) = some n
    unfold jCode
    rw [a3, b3, c3]
    congr 1
    omega
  · cases h
/-- what a sign may be -/
theorem jSign_sc {n : Int} {p : Nat} (h0 : n < 65536) (h : jSign n = some p) : 128 ≤ p ∧ p < 55296 := by
  obtain ⟨h1, h2⟩ := jSign_bytes h0 h
  unfold jBytes at h2
  obtain ⟨x, hx, -⟩ := Option.map_eq_some_iff.1 h2
  unfold jParts at hx
  split at hx
  · omega
  · split at hx
    · omega
    · split at hx
      · omega
      · cases hx
end Go.Proofs.YtffhmjlojmoomaaGreatDoor

namespace Go.Proofs.YtffhmjlojmoomaaGreatDoor

def val : List Bool → Nat
  | [] => 0
  | b :: r => b.toNat + 2 * val r
def cnt : List Bool → Nat
  | [] => 0
  | b :: r => b.toNat + cnt r
def clr : List Bool → List Bool
  | [] => []
  | true :: r => false :: r
  | false :: r => false :: clr r
def low : List Bool → Nat
  | [] => 0
  | true :: _ => 0
  | false :: r => low r + 1
def kth : List Bool → Nat → Nat
  | [], _ => 0
  | true :: _, 0 => 0
  | true :: r, k + 1 => kth r k + 1
  | false :: r, k => kth r k + 1
theorem and_oe (a b : Nat) : (2 * a + 1) &&& (2 * b) = 2 * (a &&& b) := by
  apply Nat.eq_of_testBit_eq
  intro i
  cases i with
  | zero => simp
  | succ i => rw [Nat.testBit_and]; simp only [Nat.testBit_succ]; rw [show (2 * a + 1) / 2 = a by omega, show 2 * b / 2 = b by omega, show 2 * (a &&& b) / 2 = a &&& b by omega, Nat.testBit_and]
theorem and_eo (a b : Nat) : (2 * a) &&& (2 * b + 1) = 2 * (a &&& b) := by rw [Nat.and_comm, and_oe, Nat.and_comm]
theorem and_ee (a b : Nat) : (2 * a) &&& (2 * b) = 2 * (a &&& b) := by
  apply Nat.eq_of_testBit_eq
  intro i
  cases i with
  | zero => simp
  | succ i => rw [Nat.testBit_and]; simp only [Nat.testBit_succ]; rw [show (2 * a) / 2 = a by omega, show 2 * b / 2 = b by omega, show 2 * (a &&& b) / 2 = a &&& b by omega, Nat.testBit_and]
theorem and_oo (a b : Nat) : (2 * a + 1) &&& (2 * b + 1) = 2 * (a &&& b) + 1 := by
  apply Nat.eq_of_testBit_eq
  intro i
  cases i with
  | zero => simp
  | succ i => rw [Nat.testBit_and]; simp only [Nat.testBit_succ]; rw [show (2 * a + 1) / 2 = a by omega, show (2 * b + 1) / 2 = b by omega, show (2 * (a &&& b) + 1) / 2 = a &&& b by omega, Nat.testBit_and]
theorem val_lt : ∀ l : List Bool, val l < 2 ^ l.length
  | [] => by simp [val]
  | b :: r => by
    have h := val_lt r
    have hb : b.toNat ≤ 1 := by cases b <;> simp
    rw [List.length_cons, Nat.pow_succ, val]
    omega
theorem val_zero : ∀ l : List Bool, val l = 0 ↔ cnt l = 0
  | [] => by simp [val, cnt]
  | b :: r => by
    have h := val_zero r
    rw [val, cnt]
    omega
theorem cnt_le : ∀ l : List Bool, cnt l ≤ l.length
  | [] => by simp [cnt]
  | b :: r => by
    have h := cnt_le r
    have hb : b.toNat ≤ 1 := by cases b <;> simp
    rw [List.length_cons, cnt]
    omega
theorem and_pred : ∀ l : List Bool, val l ≠ 0 → val l &&& (val l - 1) = val (clr l)
  | [], h => absurd rfl h
  | true :: r, _ => by
    show (1 + 2 * val r) &&& (1 + 2 * val r - 1) = 0 + 2 * val r
    rw [show 1 + 2 * val r - 1 = 2 * val r by omega, show 1 + 2 * val r = 2 * val r + 1 by omega, and_oe, Nat.and_self]
    omega
  | false :: r, h => by
    have h0 : val r ≠ 0 := by
      intro e
      apply h
      show 0 + 2 * val r = 0
      omega
    have ih := and_pred r h0
    show (0 + 2 * val r) &&& (0 + 2 * val r - 1) = 0 + 2 * val (clr r)
    rw [show 0 + 2 * val r - 1 = 2 * (val r - 1) + 1 by omega, show 0 + 2 * val r = 2 * val r by omega, and_eo, ih]
    omega
theorem and_rest : ∀ (w m : Nat), m < 2 ^ w → m &&& (2 ^ w - 1 - m) = 0
  | 0, m, h => by
    have : m = 0 := by simpa using h
    subst this; rfl
  | w + 1, m, h => by
    rw [Nat.pow_succ] at h
    have ih := and_rest w (m / 2) (by omega)
    rcases Nat.mod_two_eq_zero_or_one m with hm | hm
    · have e1 : m = 2 * (m / 2) := by omega
      have e2 : 2 ^ (w + 1) - 1 - m = 2 * (2 ^ w - 1 - m / 2) + 1 := by rw [Nat.pow_succ]; omega
      rw [e2]
      generalize m / 2 = q at *
      subst e1
      rw [and_eo, ih]
    · have e1 : m = 2 * (m / 2) + 1 := by omega
      have e2 : 2 ^ (w + 1) - 1 - m = 2 * (2 ^ w - 1 - m / 2) := by rw [Nat.pow_succ]; omega
      rw [e2]
      generalize m / 2 = q at *
      subst e1
      rw [and_oe, ih]
theorem and_neg : ∀ (l : List Bool) (w : Nat), l.length ≤ w → val l ≠ 0 → val l &&& (2 ^ w - val l) = 2 ^ low l
  | [], _, _, h => absurd rfl h
  | true :: r, 0, hw, _ => by simp at hw
  | true :: r, w + 1, hw, _ => by
    have h1 := val_lt r
    have h2 : val r < 2 ^ w := Nat.lt_of_lt_of_le h1 (Nat.pow_le_pow_right (by omega) (by simpa using hw))
    show (1 + 2 * val r) &&& (2 ^ (w + 1) - (1 + 2 * val r)) = 1
    rw [Nat.pow_succ, show 2 ^ w * 2 - (1 + 2 * val r) = 2 * (2 ^ w - 1 - val r) + 1 by omega, show 1 + 2 * val r = 2 * val r + 1 by omega, and_oo, and_rest w _ h2]
  | false :: r, 0, hw, _ => by simp at hw
  | false :: r, w + 1, hw, h => by
    have h0 : val r ≠ 0 := by
      intro e
      apply h
      show 0 + 2 * val r = 0
      omega
    have ih := and_neg r w (by simpa using hw) h0
    show (0 + 2 * val r) &&& (2 ^ (w + 1) - (0 + 2 * val r)) = 2 ^ (low r + 1)
    rw [Nat.pow_succ, show 2 ^ w * 2 - (0 + 2 * val r) = 2 * (2 ^ w - val r) by omega, show 0 + 2 * val r = 2 * val r by omega, and_ee, ih, Nat.pow_succ]
    omega
theorem clr_len : ∀ l : List Bool, (clr l).length = l.length
  | [] => rfl
  | true :: r => rfl
  | false :: r => by show (clr r).length + 1 = r.length + 1; rw [clr_len r]
theorem cnt_clr : ∀ l : List Bool, cnt (clr l) = cnt l - 1
  | [] => rfl
  | true :: r => by show 0 + cnt r = 1 + cnt r - 1; omega
  | false :: r => by
    have := cnt_clr r
    show 0 + cnt (clr r) = 0 + cnt r - 1
    omega
theorem kth_clr : ∀ (l : List Bool) (k : Nat), kth (clr l) k = kth l (k + 1) ∨ cnt l ≤ k + 1
  | [], k => .inr (by simp [cnt])
  | true :: r, k => .inl rfl
  | false :: r, k => by
    rcases kth_clr r k with h | h
    · exact .inl (by show kth (clr r) k + 1 = kth r (k + 1) + 1; rw [h])
    · exact .inr (by show 0 + cnt r ≤ _; omega)
theorem kth_zero : ∀ l : List Bool, cnt l ≠ 0 → kth l 0 = low l
  | [], h => absurd rfl h
  | true :: r, _ => rfl
  | false :: r, h => by
    have h0 : cnt r ≠ 0 := by
      intro e
      apply h
      show 0 + cnt r = 0
      omega
    show kth r 0 + 1 = low r + 1
    rw [kth_zero r h0]
theorem low_lt : ∀ l : List Bool, cnt l ≠ 0 → low l < l.length
  | [], h => absurd rfl h
  | true :: r, _ => by simp [low]
  | false :: r, h => by
    have h0 : cnt r ≠ 0 := by
      intro e
      apply h
      show 0 + cnt r = 0
      omega
    have := low_lt r h0
    simp [low]
    omega
/-- clearing the lowest of the bits that are set, some times -/
def clrs : Nat → List Bool → List Bool
  | 0, l => l
  | k + 1, l => clrs k (clr l)
theorem kth_low : ∀ (k : Nat) (l : List Bool), k < cnt l → low (clrs k l) = kth l k
  | 0, l, h => (kth_zero l (by omega)).symm
  | k + 1, l, h => by
    have h1 := cnt_clr l
    show low (clrs k (clr l)) = kth l (k + 1)
    rw [kth_low k (clr l) (by omega)]
    rcases kth_clr l k with h2 | h2
    · exact h2
    · omega
theorem cnt_append : ∀ a b : List Bool, cnt (a ++ b) = cnt a + cnt b
  | [], b => by simp [cnt]
  | x :: a, b => by rw [List.cons_append, cnt, cnt, cnt_append a b]; omega
theorem kth_at : ∀ (l : List Bool) (i : Nat), l[i]? = some true → kth l (cnt (l.take i)) = i
  | [], i, h => by simp at h
  | true :: r, 0, _ => rfl
  | false :: r, 0, h => by simp at h
  | true :: r, i + 1, h => by
    have := kth_at r i (by simpa using h)
    show kth (true :: r) (1 + cnt (r.take i)) = i + 1
    rw [Nat.add_comm 1]
    show kth r (cnt (r.take i)) + 1 = i + 1
    rw [this]
  | false :: r, i + 1, h => by
    have := kth_at r i (by simpa using h)
    show kth (false :: r) (0 + cnt (r.take i)) = i + 1
    rw [Nat.zero_add]
    show kth r (cnt (r.take i)) + 1 = i + 1
    rw [this]
theorem cnt_lt : ∀ (l : List Bool) (i : Nat), l[i]? = some true → cnt (l.take i) < cnt l
  | [], i, h => by simp at h
  | b :: r, 0, h => by
    have : b = true := by simpa using h
    subst this
    show 0 < 1 + cnt r
    omega
  | b :: r, i + 1, h => by
    have := cnt_lt r i (by simpa using h)
    show b.toNat + cnt (r.take i) < b.toNat + cnt r
    omega
/-- the k-th bit that is set, in groups of 28 -/
def pick : List (List Bool) → Nat → Option Nat
  | [], _ => none
  | g :: G, k => if cnt g ≤ k then (pick G (k - cnt g)).map (28 + ·) else some (kth g k)
theorem pick_at : ∀ (G : List (List Bool)) (i : Nat), (∀ g ∈ G, g.length = 28) → G.flatten[i]? = some true → pick G (cnt (G.flatten.take i)) = some i
  | [], i, _, h => by simp at h
  | g :: G, i, hg, h => by
    have h28 := hg g List.mem_cons_self
    rw [List.flatten_cons] at h
    rw [List.flatten_cons, pick]
    by_cases hi : i < 28
    · rw [List.getElem?_append_left (by omega)] at h
      rw [List.take_append_of_le_length (by omega), if_neg (by have := cnt_lt g i h; omega), kth_at g i h]
    · rw [List.getElem?_append_right (by omega), h28] at h
      have ih := pick_at G (i - 28) (fun x hx => hg x (List.mem_cons_of_mem _ hx)) h
      rw [List.take_append, List.take_of_length_le (by omega), cnt_append, h28, if_pos (by omega), show cnt g + cnt (G.flatten.take (i - 28)) - cnt g = cnt (G.flatten.take (i - 28)) by omega, ih]
      show some (28 + (i - 28)) = some i
      rw [show 28 + (i - 28) = i by omega]
/-- .. and what is chosen is one of them -/
theorem kth_get : ∀ (l : List Bool) (k : Nat), k < cnt l → l[kth l k]? = some true ∧ cnt (l.take (kth l k)) = k
  | [], k, h => by simp [cnt] at h
  | true :: r, 0, _ => ⟨rfl, rfl⟩
  | true :: r, k + 1, h => by
    have := kth_get r k (by rw [cnt] at h; simp at h; omega)
    refine ⟨by simpa [kth] using this.1, ?_⟩
    show 1 + cnt (r.take (kth r k)) = k + 1
    omega
  | false :: r, k, h => by
    have := kth_get r k (by rw [cnt] at h; simp at h; omega)
    refine ⟨by simpa [kth] using this.1, ?_⟩
    show 0 + cnt (r.take (kth r k)) = k
    omega
theorem pick_get : ∀ (G : List (List Bool)) (k i : Nat), (∀ g ∈ G, g.length = 28) → pick G k = some i → G.flatten[i]? = some true ∧ cnt (G.flatten.take i) = k
  | [], k, i, _, h => by simp [pick] at h
  | g :: G, k, i, hg, h => by
    have h28 := hg g List.mem_cons_self
    rw [pick] at h
    rw [List.flatten_cons]
    by_cases hk : cnt g ≤ k
    · rw [if_pos hk] at h
      obtain ⟨j, hj, rfl⟩ := Option.map_eq_some_iff.1 h
      obtain ⟨h1, h2⟩ := pick_get G _ j (fun x hx => hg x (List.mem_cons_of_mem _ hx)) hj
      rw [List.getElem?_append_right (by omega), h28, show 28 + j - 28 = j by omega, List.take_append, List.take_of_length_le (by omega), cnt_append, h28, show 28 + j - 28 = j by omega]
      exact ⟨h1, by omega⟩
    · rw [if_neg hk] at h
      obtain rfl := Option.some.inj h
      obtain ⟨h1, h2⟩ := kth_get g k (by omega)
      have hl : kth g k < g.length := by
        rcases Nat.lt_or_ge (kth g k) g.length with h | h
        · exact h
        · rw [List.getElem?_eq_none h] at h1; cases h1
      rw [List.getElem?_append_left hl, List.take_append_of_le_length (by omega)]
      exact ⟨h1, h2⟩
theorem cnt_flip : ∀ l : List Bool, cnt (l.map (!·)) + cnt l = l.length
  | [] => rfl
  | b :: r => by
    have := cnt_flip r
    rw [List.map_cons, cnt, cnt, List.length_cons]
    have hb : (!b).toNat + b.toNat = 1 := by cases b <;> rfl
    omega
/-- a number's bits -/
def bitsOf (w n : Nat) : List Bool := (List.range w).map (fun i => n.testBit i)
theorem bitsOf_len (w n : Nat) : (bitsOf w n).length = w := by simp [bitsOf]
theorem bitsOf_succ (w n : Nat) : bitsOf (w + 1) n = n.testBit 0 :: bitsOf w (n / 2) := by
  unfold bitsOf
  rw [List.range_succ_eq_map, List.map_cons, List.map_map]
  congr 1
  apply List.map_congr_left
  intro i _
  show n.testBit (i + 1) = (n / 2).testBit i
  rw [Nat.testBit_succ]
theorem val_bits : ∀ (w n : Nat), val (bitsOf w n) = n % 2 ^ w
  | 0, n => by
    rw [Nat.pow_zero, Nat.mod_one]; rfl
  | w + 1, n => by
    rw [bitsOf_succ, val, val_bits w, Nat.testBit_zero, Nat.pow_succ, Nat.mul_comm (2 ^ w), Nat.mod_mul]
    rcases Nat.mod_two_eq_zero_or_one n with h | h <;> rw [h] <;> simp
theorem bitsOf_get (w n i : Nat) (h : i < w) : (bitsOf w n)[i]? = some (n.testBit i) := by
  unfold bitsOf
  simp [h]
theorem bitsOf_flip (w n : Nat) : (bitsOf w n).map (!·) = bitsOf w (n ^^^ (2 ^ w - 1)) := by
  unfold bitsOf
  rw [List.map_map]
  apply List.map_congr_left
  intro i hi
  have hi' : i < w := by simpa using hi
  show (!n.testBit i) = _
  rw [Nat.testBit_xor, Nat.testBit_two_pow_sub_one]
  simp [hi']
theorem bitsOf_take (w n i : Nat) (h : i ≤ w) : (bitsOf w n).take i = bitsOf i n := by
  unfold bitsOf
  rw [← List.map_take, List.take_range, Nat.min_eq_left h]
theorem bits_cong {w n m : Nat} (h : n % 2 ^ w = m % 2 ^ w) : bitsOf w n = bitsOf w m := by
  unfold bitsOf
  apply List.map_congr_left
  intro i hi
  have hi' : i < w := by simpa using hi
  have e1 : (n % 2 ^ w).testBit i = n.testBit i := by rw [Nat.testBit_mod_two_pow]; simp [hi']
  have e2 : (m % 2 ^ w).testBit i = m.testBit i := by rw [Nat.testBit_mod_two_pow]; simp [hi']
  rw [← e1, ← e2, h]
/-- how many bits are set -/
def pc (n : Nat) : Nat := cnt (bitsOf 32 n)
theorem bits_val : ∀ l : List Bool, bitsOf l.length (val l) = l
  | [] => rfl
  | b :: r => by
    rw [List.length_cons, bitsOf_succ]
    have e1 : (val (b :: r)).testBit 0 = b := by rw [val, Nat.testBit_zero]; cases b <;> simp <;> omega
    have e2 : val (b :: r) / 2 = val r := by rw [val]; have hb : b.toNat ≤ 1 := by cases b <;> simp
                                             omega
    rw [e1, e2, bits_val r]
theorem cnt_bits_le : ∀ (w k n : Nat), n < 2 ^ w → cnt (bitsOf (w + k) n) = cnt (bitsOf w n)
  | 0, k, n, h => by
    have : n = 0 := by simpa using h
    subst this
    rw [Nat.zero_add]
    have : ∀ k, cnt (bitsOf k 0) = 0 := by
      intro k
      induction k with
      | zero => rfl
      | succ k ih => rw [bitsOf_succ, cnt]; simp; exact ih
    rw [this, this]
  | w + 1, k, n, h => by
    rw [show w + 1 + k = (w + k) + 1 by omega, bitsOf_succ, bitsOf_succ, cnt, cnt, cnt_bits_le w k (n / 2) (by rw [Nat.pow_succ] at h; omega)]
theorem pc_of (w n : Nat) (h : n < 2 ^ w) (hw : w ≤ 32) : pc n = cnt (bitsOf w n) := by
  unfold pc
  have := cnt_bits_le w (32 - w) n h
  rwa [show w + (32 - w) = 32 by omega] at this
end Go.Proofs.YtffhmjlojmoomaaGreatDoor
