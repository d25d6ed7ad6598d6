/- Layer 15 (tag): what is printed is read as it was (plain). -/
import Derived.Test.YtmnmonmbdgedbaaTg10
namespace Go.Proofs.Ytmnmonmbdgedbaa
open Go.RowKit
set_option linter.unusedVariables false
set_option linter.unusedSimpArgs false

/-- frames at their places, one behind the other -/
def placeF (v : Int) : Int → List Fr → List Fr
  | _, [] => []
  | p, f :: fs => { f with pl := p } :: placeF v (p + ((printF v f).length : Nat)) fs
theorem placeF_len (v : Int) : ∀ (p : Int) (fs : List Fr), (placeF v p fs).length = fs.length
  | _, [] => rfl
  | p, f :: fs => by simp [placeF, placeF_len v _ fs]
def zeroPl (f : Fr) : Fr := { f with pl := 0 }
theorem placeF_zero (v : Int) : ∀ (p : Int) (fs : List Fr), (placeF v p fs).map zeroPl = fs.map zeroPl
  | _, [] => rfl
  | p, f :: fs => by simp [placeF, placeF_zero v _ fs, zeroPl]
theorem placeF_body (v : Int) : ∀ (p : Int) (fs : List Fr), bodyL v (placeF v p fs) = bodyL v fs
  | _, [] => rfl
  | p, f :: fs => by
    have h := placeF_body v (p + ((printF v f).length : Nat)) fs
    unfold bodyL at h ⊢
    simp only [placeF, List.map_cons, List.flatten_cons]
    rw [h]
    rfl
theorem tg_parse_none (v : Int) (sp : Bool) (m : Rd) (h : m.left = 0) : frParse v sp m = (m, zeroF, false) := by
  unfold frParse
  rw [if_pos (.inr (.inr (.inl h)))]
theorem run_left_nil {m : Rd} (h : Run m []) : m.left = 0 := by rw [h.left]; rfl
theorem frsS_run (v : Int) (sp : Bool) : ∀ (fs : List Fr) (g : Nat) (m : Rd) (acc : List Fr), fs.length < g → (∀ f ∈ fs, checkF v f = 0 ∧ f.bo.length ≤ 8000000 ∧ (v = 4 → sp = true → f.fm ||| 2 = f.fm)) → Run m (bodyL v fs) →
    frsS v sp g m acc = (adv m (bodyL v fs).length, acc ++ placeF v (m.bs + m.nx) fs)
  | [], g, m, acc, hg, _, h => by
    obtain ⟨g, rfl⟩ : ∃ k, g = k + 1 := ⟨g - 1, by omega⟩
    rw [frsS, tg_parse_none v sp m (run_left_nil h)]
    simp [bodyL, placeF, adv]
  | f :: fs, g, m, acc, hg, hf, h => by
    obtain ⟨g, rfl⟩ : ∃ k, g = k + 1 := ⟨g - 1, by omega⟩
    obtain ⟨h1, h2, h3⟩ := hf f List.mem_cons_self
    have hb : bodyL v (f :: fs) = printF v f ++ bodyL v fs := by simp [bodyL]
    rw [hb] at h
    rw [frsS, frParse_run v sp f m (bodyL v fs) h1 h2 h3 h]
    simp only [if_true]
    rw [frsS_run v sp fs g _ _ (by simp at hg; omega) (fun x hx => hf x (List.mem_cons_of_mem _ hx)) h.adv, hb, adv_adv, List.length_append]
    simp only [placeF, Prod.mk.injEq, true_and]
    rw [List.append_assoc]
    show acc ++ ([_] ++ placeF v (m.bs + ((m.nx + (printF v f).length : Nat) : Int)) fs) = _
    rw [show m.bs + ((m.nx + (printF v f).length : Nat) : Int) = m.bs + (m.nx : Int) + ((printF v f).length : Nat) by omega]
    rfl
theorem print_six (v : Int) (f : Fr) (hc : checkF v f = 0) : 6 ≤ (printF v f).length := by
  obtain ⟨h1, _, _⟩ := named_pos (checkF_ok hc).1
  have h2 := sizeL_len v (lengthF v f)
  rw [printF_eq]
  simp only [List.length_append]
  split at h2 <;> omega
theorem bodyL_six (v : Int) : ∀ (fs : List Fr), (∀ f ∈ fs, checkF v f = 0) → 6 * fs.length ≤ (bodyL v fs).length
  | [], _ => by simp
  | f :: fs, h => by
    have h1 := print_six v f (h f List.mem_cons_self)
    have h2 := bodyL_six v fs (fun x hx => h x (List.mem_cons_of_mem _ hx))
    have hb : bodyL v (f :: fs) = printF v f ++ bodyL v fs := by simp [bodyL]
    rw [hb, List.length_append, List.length_cons]
    omega
theorem frsM_run (v : Int) (sp : Bool) (fs : List Fr) (m : Rd) (hf : ∀ f ∈ fs, checkF v f = 0 ∧ f.bo.length ≤ 8000000 ∧ (v = 4 → sp = true → f.fm ||| 2 = f.fm)) (h : Run m (bodyL v fs)) :
    frsM v sp m = (adv m (bodyL v fs).length, placeF v (m.bs + m.nx) fs) := by
  have h6 := bodyL_six v fs (fun f hx => (hf f hx).1)
  have hl := h.len
  have hR : Run (adv m (bodyL v fs).length) [] := Run.adv (by rw [List.append_nil]; exact h)
  unfold frsM
  rw [frsS_run v sp fs _ m [] (by omega) hf h]
  unfold padM
  rw [hR.rest]
  simp only [List.length_nil, List.nil_append]
  rw [if_neg (by omega)]
  rfl
set_option maxRecDepth 100000 in
theorem an_facts : ∀ n : Nat, n < 256 → (anB (UInt8.ofNat n) (192 - (192 &&& 64)) = false → anB (UInt8.ofNat n) 192 = false ∧ tb (UInt8.ofNat n) 64 = false ∧ UInt8.ofNat n &&& 191 = UInt8.ofNat n) ∧
    (anB (UInt8.ofNat n) (224 - (224 &&& 64)) = false → anB (UInt8.ofNat n) 224 = false ∧ tb (UInt8.ofNat n) 64 = false ∧ UInt8.ofNat n &&& 191 = UInt8.ofNat n) ∧
    (anB (UInt8.ofNat n) (240 - (240 &&& 64)) = false → anB (UInt8.ofNat n) 240 = false ∧ tb (UInt8.ofNat n) 64 = false ∧ UInt8.ofNat n &&& 191 = UInt8.ofNat n) := by decide
theorem fl_ok {v : Int} {fl : UInt8} (hv : v = 2 ∨ v = 3 ∨ v = 4) (h : anB fl (allowN v - (allowN v &&& 64)) = false) : anB fl (allowN v) = false ∧ tb fl 64 = false ∧ fl &&& 191 = fl := by
  have e : UInt8.ofNat fl.toNat = fl := by simp
  obtain ⟨a, b, c⟩ := an_facts fl.toNat (UInt8.toNat_lt fl)
  rw [e] at a b c
  rcases hv with rfl | rfl | rfl
  · exact a h
  · exact b h
  · exact c h
theorem bigL_nat (n : Nat) (h : n < 256) : bigL n 1 = [UInt8.ofNat n] := by
  simp [bigL, smallL]
/-- a head that may be is read as it was -/
theorem hdM_run (v : Int) (rv fl : UInt8) (m : Rd) (r : List UInt8) (hb : badH v rv fl = false) (h : Run m ([73, 68, 51] ++ (bigL v.toNat 1 ++ (bigL rv.toNat 1 ++ (bigL fl.toNat 1 ++ r))))) :
    hdM m = (adv m 6, ⟨v, rv, fl⟩) := by
  obtain ⟨hv, hr, han⟩ := badH_ok hb
  obtain ⟨h1, h2, h3⟩ := fl_ok hv han
  have hv2 : letters v ≠ 0 := by rcases hv with rfl | rfl | rfl <;> decide
  have hvt : v.toNat < 256 := by omega
  have R1 := h.adv
  have R2 := R1.adv
  have R3 := R2.adv
  unfold hdM
  rw [h.want]
  simp only
  rw [R1.take_k _ (by rw [bigL_len])]
  simp only
  rw [R2.take_k _ (by rw [bigL_len])]
  simp only
  rw [R3.take_k _ (by rw [bigL_len])]
  simp only
  have e1 : ((numL (bigL v.toNat 1) : Nat) : Int) = v := by rw [bigL_nat _ hvt, numL_one, UInt8.toNat_ofNat']; omega
  have e2 : UInt8.ofNat (numL (bigL rv.toNat 1)) = rv := by rw [bigL_1, numL_one]; simp
  have e3 : UInt8.ofNat (numL (bigL fl.toNat 1)) = fl := by rw [bigL_1, numL_one]; simp
  rw [e1, e2, e3]
  have c0 : (adv (adv (adv (adv m ([73, 68, 51] : List UInt8).length) (bigL v.toNat 1).length) (bigL rv.toNat 1).length) (bigL fl.toNat 1).length).cd = 0 := h.1
  rw [if_neg (by rw [c0]; simp), h1, h2]
  have x1 : decide (letters v = 0) = false := by simpa using hv2
  have x2 : ((rv.toNat : Int) == 255) = false := (bad_h_not hb).2.1
  rw [x1, x2]
  simp only [fail4, Bool.false_eq_true, if_false, Bool.and_false]
  rw [bigL_len, bigL_len, bigL_len, adv_adv, adv_adv, adv_adv]
  rfl
/-- a tag that may be printed, and isn't too large, is read as it was, with what stands behind it -/
theorem prT_print (t : Tg) (r : List UInt8) (hc : (checkT t).1 = 0) (hbo : ∀ f ∈ t.fs, f.bo.length ≤ 8000000) (hl : (bodyL t.v t.fs).length ≤ 100000000) :
    prT (printT t ++ r) = (⟨t.v, t.rv, t.fl, placeF t.v 10 t.fs⟩, r, 0, 0) := by
  obtain ⟨_, hb, hf, h4⟩ := checkT_ok hc
  obtain ⟨hv, hr, han⟩ := badH_ok hb
  obtain ⟨h1, h2, h3⟩ := fl_ok hv han
  have hbt := bodyT_le t.v t.fl t.fs
  have hff : ∀ f ∈ t.fs, checkF t.v f = 0 ∧ f.bo.length ≤ 8000000 ∧ (t.v = 4 → tb t.fl 128 = true → f.fm ||| 2 = f.fm) := fun f hx =>
    ⟨(badIn_ok (hf f hx)).1, hbo f hx, fun a b => or_tb _ ((badIn_ok (hf f hx)).2 a b)⟩
  generalize hB : bodyT t.v t.fl t.fs = B at *
  have hpe : printT t = [73, 68, 51] ++ (headL t.v t.rv t.fl B.length ++ (B ++ tailT (footB t.v t.fl) (headL t.v t.rv t.fl B.length))) := by unfold printT; rw [hB]
  have hhe : headL t.v t.rv t.fl B.length = bigL t.v.toNat 1 ++ (bigL t.rv.toNat 1 ++ (bigL t.fl.toNat 1 ++ safeL B.length)) := by simp [headL, headT]
  have hhl := headL_len t.v t.rv t.fl B.length
  have hT : printT t ++ r = [73, 68, 51] ++ (headL t.v t.rv t.fl B.length ++ (B ++ (tailT (footB t.v t.fl) (headL t.v t.rv t.fl B.length) ++ r))) := by rw [hpe]; simp [List.append_assoc]
  generalize printT t ++ r = l at *
  have R0 : Run (Rd.new l 0) ([73, 68, 51] ++ (bigL t.v.toNat 1 ++ (bigL t.rv.toNat 1 ++ (bigL t.fl.toNat 1 ++ (safeL B.length ++ (B ++ (tailT (footB t.v t.fl) (headL t.v t.rv t.fl B.length) ++ r))))))) :=
    (Run.new l 0).cons (by rw [hT, hhe]; simp [List.append_assoc])
  have R6 : Run (adv (Rd.new l 0) 6) (safeL B.length ++ (B ++ (tailT (footB t.v t.fl) (headL t.v t.rv t.fl B.length) ++ r))) := by
    have q := R0.adv.adv.adv.adv
    rw [bigL_len, bigL_len, bigL_len, adv_adv, adv_adv, adv_adv] at q
    exact q
  have hl3 : ¬ (l.length < 3 ∨ l.take 3 ≠ [73, 68, 51]) := by
    rw [hT]
    simp
  unfold prT
  rw [if_neg hl3, hdM_run t.v t.rv t.fl _ _ hb R0]
  simp only
  rw [R6.safe _ (by omega)]
  simp only
  have R10 := R6.adv
  rw [safeL_length] at R10
  rw [R10.take]
  simp only
  rw [if_neg (by rw [R10.adv.1]; simp)]
  have hbody : (if wholeB t.v t.fl = true then sndDrop false B else B) = bodyL t.v t.fs := by
    rw [← hB]
    unfold bodyT
    split
    · rename_i hw
      exact drop_put _ false (fun h => by cases h)
    · rfl
  rw [hbody]
  have hsk : skM t.v t.fl (Rd.new (bodyL t.v t.fs) 10) = Rd.new (bodyL t.v t.fs) 10 := by unfold skM; rw [if_pos h2]
  rw [hsk, frsM_run t.v (tb t.fl 128) t.fs _ hff (Run.new _ _)]
  simp only
  rw [if_neg (by simp [adv, Rd.new])]
  have hmx : (Rd.new (bodyL t.v t.fs) 10).bs + ((Rd.new (bodyL t.v t.fs) 10).nx : Int) = 10 := rfl
  rw [hmx, h3]
  have RB := R10.adv
  rcases hft : footB t.v t.fl with _ | _
  · rw [hft] at RB
    have RB' : Run (adv (adv (adv (Rd.new l 0) 6) 4) B.length) r := RB
    simp only [Bool.false_eq_true, if_false]
    rw [if_neg (by rw [RB'.1]; simp), RB'.rest]
  · rw [hft] at RB
    have RB' : Run (adv (adv (adv (Rd.new l 0) 6) 4) B.length) ([51, 68, 73] ++ (headL t.v t.rv t.fl B.length ++ r)) := RB.cons (by simp [tailT])
    have hd7 : (l.drop 3).take 7 = headL t.v t.rv t.fl B.length := by
      rw [hT, List.drop_append_of_le_length (by simp)]
      show ([] ++ _ : List UInt8).take 7 = _
      rw [List.nil_append, ← hhl, List.take_left]
    simp only [if_true]
    rw [hd7, RB'.want]
    simp only
    rw [RB'.adv.want]
    simp only
    rw [if_neg (by rw [RB'.adv.adv.1]; simp), RB'.adv.adv.rest]
end Go.Proofs.Ytmnmonmbdgedbaa
