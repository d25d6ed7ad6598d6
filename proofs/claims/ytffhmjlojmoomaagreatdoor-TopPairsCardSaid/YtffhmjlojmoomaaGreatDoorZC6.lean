/- Layer 9 (charset), plain: what is encoded in two bytes a sign is decoded as it was. | Layer 9 (charset), plain: texts in any charset; what is encoded is decoded as it was. -/
import Derived.Test.YtffhmjlojmoomaaGreatDoorZC2
import Derived.Test.YtffhmjlojmoomaaGreatDoorZC4
import Derived.Test.YtffhmjlojmoomaaGreatDoorZB7
import Derived.Test.YtffhmjlojmoomaaGreatDoorZV4

namespace Go.Proofs.YtffhmjlojmoomaaGreatDoor
open Go.RowKit
set_option linter.unusedVariables false
set_option linter.unusedSimpArgs false

theorem bigL_two (c : Nat) : bigL c 2 = [UInt8.ofNat (c / 256), UInt8.ofNat c] := rfl
theorem bigL_hi {c : Nat} (h : c < 65536) : (UInt8.ofNat (c / 256)).toNat = c / 256 := by rw [UInt8.toNat_ofNat', Nat.mod_eq_of_lt (by omega)]
theorem bigL_lo (c : Nat) : (UInt8.ofNat c).toNat = c % 256 := by rw [UInt8.toNat_ofNat']
theorem encs_ne {l : List Nat} (h : l ≠ []) : encs l ≠ [] := by
  rcases l with _ | ⟨p, l⟩
  · exact absurd rfl h
  · intro e
    have h1 := encR_len p
    have h2 := congrArg List.length e
    rw [encs_cons, List.length_append, List.length_nil] at h2
    omega
theorem txC_code {C : Cst} {c k : Nat} (h : k < 65536) {l : List Nat} (hs : sgC C c (k / 256) (k % 256) = some l) : txC C c (UInt8.ofNat (k / 256)) (UInt8.ofNat k) = encs l := by
  unfold txC
  rw [bigL_hi h, bigL_lo, hs]
  rfl
theorem decT_code {C : Cst} {c k : Nat} (h : k < 65536) (h2 : 128 ≤ k / 256) {l : List Nat} (hs : sgC C c (k / 256) (k % 256) = some l) (hl : l ≠ []) (r : List UInt8) : decT (txC C c) (bigL k 2 ++ r) = (decT (txC C c) r).map (encs l ++ ·) := by
  rw [bigL_two, List.cons_append, List.cons_append, List.nil_append, decT_two (by rw [bigL_hi h]; omega), txC_code h hs, if_neg (encs_ne hl)]
theorem btC_code {C : Cst} (hC : CstOk C) {c p : Nat} (hc : c = 4 ∨ c = 5) (h : btC C c p ≠ []) : ∃ k, k < 65536 ∧ 128 ≤ k / 256 ∧ btC C c p = bigL k 2 ∧ sgC C c (k / 256) (k % 256) = some [p] := by
  rcases hc with rfl | rfl
  · have e : btC C 4 p = wTxt C p := rfl
    rw [e] at h ⊢
    unfold wTxt at h ⊢
    rcases hb : bytesW C p with _ | k
    · rw [hb] at h
      exact absurd rfl h
    · obtain ⟨h1, h2, h3⟩ := bytesW_sign hC p k hb
      refine ⟨k, h1, h2, rfl, ?_⟩
      unfold sgC
      rw [if_pos rfl, h3]
      rfl
  · have e : btC C 5 p = jTxt p := rfl
    rw [e] at h ⊢
    unfold jTxt at h ⊢
    rcases hb : jBytes p with _ | k
    · rw [hb] at h
      exact absurd rfl h
    · obtain ⟨h1, h2, h3⟩ := jBytes_sign hb
      obtain ⟨n, rfl⟩ : ∃ n : Nat, k = n := ⟨k.toNat, by omega⟩
      refine ⟨n, by omega, by omega, rfl, ?_⟩
      unfold sgC
      rw [if_neg (by omega), if_pos rfl, show ((n / 256 : Nat) : Int) * 256 + ((n % 256 : Nat) : Int) = (n : Int) by omega, h3]
      rfl
theorem decT_encT {C : Cst} (hC : CstOk C) {c : Nat} (hc : c = 4 ∨ c = 5) : ∀ (ps : List Nat) (b : List UInt8), encT (btC C c) ps = some b → decT (txC C c) b = some (encs ps)
  | [], b, h => by
    obtain rfl := Option.some.inj h
    rfl
  | p :: ps, b, h => by
    unfold encT at h
    split at h
    · rename_i hp
      obtain ⟨b', hb, rfl⟩ := Option.map_eq_some_iff.1 h
      rw [decT_one (by rw [bigL_lo]; omega), decT_encT hC hc ps b' hb, encs_cons, encR_one hp]
      rfl
    split at h
    · cases h
    · rename_i hp hne
      obtain ⟨b', hb, rfl⟩ := Option.map_eq_some_iff.1 h
      obtain ⟨k, k1, k2, k3, k4⟩ := btC_code hC hc hne
      rw [k3, decT_code k1 k2 k4 (by simp), decT_encT hC hc ps b' hb]
      simp [encs]
theorem decT_encG {C : Cst} (hC : CstOk C) : ∀ (n : Nat) (ps : List Nat) (b : List UInt8), ps.length ≤ n → encG (bytB C) ps = some b → decT (txC C 6) b = some (encs ps)
  | _, [], b, _, h => by
    rw [encG] at h
    obtain rfl := Option.some.inj h
    rfl
  | 0, p :: ps, b, hn, h => by simp at hn
  | n + 1, p :: ps, b, hn, h => by
    have hn' : ps.length ≤ n := by simpa using hn
    by_cases hp : p < 128
    · rw [encG_low hp] at h
      obtain ⟨b', hb, rfl⟩ := Option.map_eq_some_iff.1 h
      rw [decT_one (by rw [bigL_lo]; omega), decT_encG hC n ps b' hn' hb, encs_cons, encR_one hp]
      rfl
    · rcases bytB_cases C p (ps.take 1) with h0 | ⟨k, h1⟩ | ⟨k, h2, hne⟩
      · rw [encG_no hp h0] at h
        cases h
      · rw [encG_one hp h1 (.inl (by decide))] at h
        obtain ⟨b', hb, rfl⟩ := Option.map_eq_some_iff.1 h
        obtain ⟨k1, k2, ⟨-, k3⟩ | ⟨e, -⟩⟩ := bytB_sign hC _ _ _ _ h1
        · rw [decT_code k1 k2 (c := 6) (l := [p]) k3 (by simp), decT_encG hC n ps b' hn' hb]
          simp [encs]
        · cases e
      · rcases ps with _ | ⟨q, ps⟩
        · exact absurd rfl hne
        · have h2' : bytB C p [q] = some (k, 2) := h2
          rw [encG_two hp h2'] at h
          obtain ⟨b', hb, rfl⟩ := Option.map_eq_some_iff.1 h
          obtain ⟨k1, k2, ⟨e, -⟩ | ⟨-, q', hq, k3⟩⟩ := bytB_sign hC _ _ _ _ h2'
          · cases e
          · obtain rfl : q = q' := by simpa using hq
            rw [decT_code k1 k2 (c := 6) (l := [p, q]) k3 (by simp), decT_encG hC n ps b' (by simp at hn'; omega) hb]
            simp [encs]
end Go.Proofs.YtffhmjlojmoomaaGreatDoor

namespace Go.Proofs.YtffhmjlojmoomaaGreatDoor
open Go.RowKit
set_option linter.unusedVariables false
set_option linter.unusedSimpArgs false

theorem pieF_mem {L : List Pie} {c q : Nat} (h : pieF L c = some q) : ∃ p ∈ L, p.fr ≤ c ∧ c < p.fr + pieN p ∧ q ∈ pieS p := by
  unfold pieF at h
  obtain ⟨p, hp, h1⟩ := List.exists_of_findSome?_eq_some h
  split at h1
  · rename_i hc
    exact ⟨p, hp, hc.1, hc.2, List.mem_of_getElem? h1⟩
  · cases h1
theorem pieS_sc {p : Pie} (h : PieOk p) : ∀ q ∈ pieS p, Sc q := by
  intro q hq
  obtain ⟨-, ⟨h1, h2, h3, h4⟩ | ⟨h1, -, h2⟩⟩ := h
  · unfold pieS at hq
    rw [if_pos h1] at hq
    obtain ⟨k, hk, rfl⟩ := List.mem_map.1 hq
    have := List.mem_range.1 hk
    unfold Sc
    omega
  · unfold pieS at hq
    rw [if_neg h1] at hq
    exact h2 q hq
theorem pieF_sc {L : List Pie} (hL : ∀ p ∈ L, PieOk p ∧ (p.tx ≠ [] → p.tp = 0 ∧ p.ct = 0)) {c q : Nat} (h : pieF L c = some q) : Sc q := by
  obtain ⟨p, hp, -, -, hq⟩ := pieF_mem h
  exact pieS_sc (hL p hp).1 q hq
theorem pieF_none {L : List Pie} {n : Nat} (hL : ∀ p ∈ L, p.fr + pieN p ≤ n) {c : Nat} (h : n ≤ c) : pieF L c = none := by
  rcases hf : pieF L c with _ | q
  · rfl
  · obtain ⟨p, hp, -, h1, -⟩ := pieF_mem hf
    have := hL p hp
    omega
theorem pieN_tx {fr tp ct n : Nat} {tx : List Nat} (h : tx.length = n) (h0 : n ≠ 0) : pieN ⟨fr, tp, ct, tx⟩ = n := by
  unfold pieN
  rw [if_neg (ne_nil_of h h0)]
  exact h
theorem koiP_lt {C : Cst} (hC : CstOk C) : ∀ p ∈ koiP C, p.fr + pieN p ≤ 256 := by
  intro p hp
  unfold koiP at hp
  simp only [List.mem_cons, List.not_mem_nil, or_false] at hp
  rcases hp with rfl | rfl
  · decide
  · rw [pieN_tx hC.koiL.1 (by decide)]
    exact (by decide : 128 + 128 ≤ 256)
theorem altP_lt {C : Cst} (hC : CstOk C) : ∀ p ∈ altP C, p.fr + pieN p ≤ 256 := by
  intro p hp
  unfold altP at hp
  simp only [List.mem_cons, List.not_mem_nil, or_false] at hp
  rcases hp with rfl | rfl | rfl | rfl | rfl
  · decide
  · decide
  · rw [pieN_tx hC.cpBL.1 (by decide)]
    exact (by decide : 176 + 48 ≤ 256)
  · decide
  · rw [pieN_tx hC.cpFL.1 (by decide)]
    exact (by decide : 240 + 16 ≤ 256)
theorem chF_none {C : Cst} (hC : CstOk C) (c k : Nat) (hk : 256 ≤ k) : chF C c k = none := by
  unfold chF
  split
  · exact pieF_none (n := 256) (by decide) hk
  · exact pieF_none (koiP_lt hC) hk
  · unfold ovF
    rw [pieF_none (n := 256) (L := ukrP) (by decide) hk, pieF_none (koiP_lt hC) hk]
  · exact pieF_none (altP_lt hC) hk
theorem chF_sc {C : Cst} (hC : CstOk C) (c k p : Nat) (h : chF C c k = some p) : Sc p := by
  unfold chF at h
  split at h
  · exact pieF_sc latP_ok.1 h
  · exact pieF_sc (koiP_ok hC).1 h
  · unfold ovF at h
    rcases hu : pieF ukrP k with _ | q
    · rw [hu] at h
      exact pieF_sc (koiP_ok hC).1 h
    · rw [hu] at h
      obtain rfl := Option.some.inj h
      exact pieF_sc ukrP_ok.1 hu
  · exact pieF_sc (altP_ok hC).1 h
/-- the bytes of signs in a charset -/
def encP (C : Cst) (c : Nat) (ps : List Nat) : Option (List UInt8) := if c < 4 then encS (chF C c) ps else if c < 6 then encT (btC C c) ps else if c = 6 then encG (bytB C) ps else if c = 7 then some (encs ps) else some (encU (c == 9) ps)
/-- a text's bytes in a charset -/
def EncR (C : Cst) (c : Nat) (t b : List UInt8) : Prop := ∃ ps, (∀ p ∈ ps, Sc p) ∧ t = encs ps ∧ encP C c ps = some b
theorem EncR.same {C : Cst} {c : Nat} {t b b' : List UInt8} (h : EncR C c t b) (g : EncR C c t b') : b = b' := by
  obtain ⟨ps, h1, h2, h3⟩ := h
  obtain ⟨qs, g1, g2, g3⟩ := g
  obtain rfl := encs_inj h1 g1 (h2.symm.trans g2)
  exact Option.some.inj (h3.symm.trans g3)
/-- the text of bytes in a charset -/
def DecR (C : Cst) (c : Nat) (b t : List UInt8) : Prop := if c < 4 then ∃ ps, decS (chF C c) b = some ps ∧ t = encs ps else if c < 7 then decT (txC C c) b = some t else if c = 7 then Good b ∧ t = b else ∃ ps, decU (c == 9) b.length b = some ps ∧ t = encs ps
theorem DecR.same {C : Cst} {c : Nat} {b t t' : List UInt8} (h : DecR C c b t) (g : DecR C c b t') : t = t' := by
  unfold DecR at h g
  split at h
  · rename_i hc
    rw [if_pos hc] at g
    obtain ⟨ps, h1, rfl⟩ := h
    obtain ⟨qs, g1, rfl⟩ := g
    rw [Option.some.inj (h1.symm.trans g1)]
  rename_i hc
  rw [if_neg hc] at g
  split at h
  · rename_i hc
    rw [if_pos hc] at g
    exact Option.some.inj (h.symm.trans g)
  rename_i hc
  rw [if_neg hc] at g
  split at h
  · rename_i hc
    rw [if_pos hc] at g
    exact h.2.trans g.2.symm
  rename_i hc
  rw [if_neg hc] at g
  obtain ⟨ps, h1, rfl⟩ := h
  obtain ⟨qs, g1, rfl⟩ := g
  rw [Option.some.inj (h1.symm.trans g1)]
/-- what is encoded is decoded as it was -/
theorem decR_encR {C : Cst} (hC : CstOk C) {c : Nat} {t b : List UInt8} (h : EncR C c t b) : DecR C c b t := by
  obtain ⟨ps, h1, rfl, h3⟩ := h
  unfold encP at h3
  unfold DecR
  split at h3
  · rename_i hc
    rw [if_pos hc]
    exact ⟨ps, decS_encS _ ps b h3, rfl⟩
  rename_i hc
  rw [if_neg hc]
  split at h3
  · rename_i hc2
    rw [if_pos (by omega)]
    exact decT_encT hC (by omega) ps b h3
  rename_i hc2
  split at h3
  · rename_i hc3
    rw [if_pos (by omega), hc3]
    exact decT_encG hC ps.length ps b (Nat.le_refl _) h3
  rename_i hc3
  rw [if_neg (by omega)]
  split at h3
  · rename_i hc4
    rw [if_pos hc4]
    obtain rfl := Option.some.inj h3
    exact ⟨⟨ps, h1, rfl⟩, rfl⟩
  · rename_i hc4
    rw [if_neg hc4]
    obtain rfl := Option.some.inj h3
    exact ⟨ps, decU_enc _ ps _ h1 (Nat.le_refl _), rfl⟩
end Go.Proofs.YtffhmjlojmoomaaGreatDoor
