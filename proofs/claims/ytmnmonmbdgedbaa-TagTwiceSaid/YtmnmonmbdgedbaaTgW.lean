/- Layer 15 (tag): the statement TagTwice, joined. -/
import Derived.Test.YtmnmonmbdgedbaaTgV
namespace Go.Proofs.Ytmnmonmbdgedbaa
open Go.RowKit
set_option linter.unusedVariables false
set_option linter.unusedSimpArgs false

theorem prT_bad (l : List UInt8) (h : (prT l).2.2.1 ≠ 0) : (prT l).2.1 = [] := by
  unfold prT at h ⊢
  by_cases hn : l.length < 3 ∨ l.take 3 ≠ [73, 68, 51]
  · rw [if_pos hn] at h
    exact absurd rfl h
  rw [if_neg hn] at h ⊢
  simp only at h ⊢
  generalize hdM (Rd.new l 0) = A at h ⊢
  generalize A.1.safe.1.take A.1.safe.2 = b at h ⊢
  by_cases h1 : b.1.cd ≠ 0
  · rw [if_pos h1]
  rw [if_neg h1] at h ⊢
  generalize (if wholeB A.2.v A.2.fl = true then sndDrop false b.2 else b.2) = body at h ⊢
  generalize frsM A.2.v (tb A.2.fl 128) (skM A.2.v A.2.fl (Rd.new body 10)) = r at h ⊢
  by_cases h2 : r.1.cd ≠ 0
  · rw [if_pos h2]
  rw [if_neg h2] at h ⊢
  generalize (if footB A.2.v A.2.fl = true then ((b.1.want [51, 68, 73]).1.want ((l.drop 3).take 7)).1 else b.1) = m5 at h ⊢
  by_cases h3 : m5.cd ≠ 0
  · rw [if_pos h3]
  rw [if_neg h3] at h
  exact absurd rfl h
theorem placeF_same (v : Int) (p : Int) (fs : List Fr) : (placeF v p fs).map (fun f => if false = true then f else zeroPl' f) = fs.map (fun f => if false = true then f else zeroPl' f) := by
  have h := placeF_zero v p fs
  exact h
theorem read_body (v : Int) : ∀ (fs : List Fr), (∀ f ∈ fs, checkF v f = 0) → (bodyL v fs).length ≤ 2 * (fs.map (fun f => f.bo.length)).sum + 15 * fs.length
  | [], _ => by simp [bodyL]
  | f :: fs, h => by
    have h1 := read_body v fs (fun x hx => h x (List.mem_cons_of_mem _ hx))
    have h2 := h f List.mem_cons_self
    have h4 := print_len_le v f (named_pos (checkF_ok h2).1).2.1
    have hb : bodyL v (f :: fs) = printF v f ++ bodyL v fs := by simp [bodyL]
    rw [hb, List.length_append, List.length_cons, List.map_cons, List.sum_cons]
    omega
theorem printT_len (t : Tg) : (printT t).length ≤ (bodyT t.v t.fl t.fs).length + 20 := by
  unfold printT tailT
  simp only [List.length_append, headL_len]
  split <;> simp [headL_len] <;> omega
theorem walk_TagTwice (l : List UInt8) (hl : l.length ≤ maxLen) (w : World) : Calls Try.prog 5 #[.string ⟨l.toArray⟩] w fun e w' => e = .returned (.bool true) ∧ Below w.heap.size w w' := by
  by_cases h : (2000 : Int) < l.length
  · exact ttwice_over l w h
  have hl2 : l.length ≤ 2000 := by omega
  have PA := fun w => (tparse_any l w (by omega)).mono (fun e w' => tpar_of (prT l).1 (prT l).2.1 (prT l).2.2.1 (prT l).2.2.2 (prT l).1.fs.length rfl w w' e)
  by_cases hc : (prT l).2.2.1 = 0
  rotate_left
  · exact ttwice_bad l _ _ _ _ _ _ _ _ true w h (.inl ⟨rfl, prT_bad l hc⟩) (Lib.hid fun w => by have := bad_any (prT l).2.2.1 (prT l).2.2.2 w; rw [show ((prT l).2.2.1 != 0) = true by simpa using hc] at this; exact this) (Lib.hid PA)
  rcases prT_sound l (by omega) (prT l).1 (prT l).2.1 (prT l).2.2.2 (by rw [← hc]) with ⟨h1, h2, h3⟩ | ⟨h1, h2, h3, h4, h5, h6, h7, h8⟩
  · exact ttwice_bad l _ _ _ _ _ _ _ _ false w h (.inr ⟨rfl, by rw [h1]; rfl, h2⟩) (Lib.hid fun w => by have := bad_any (prT l).2.2.1 (prT l).2.2.2 w; rw [show ((prT l).2.2.1 != 0) = false by rw [hc]; rfl] at this; exact this) (Lib.hid PA)
  · rw [hc, h2] at PA
    generalize (prT l).1 = t at *
    generalize (prT l).2.1 = rest at *
    have hc0 : (checkT t).1 = 0 := by rw [h3]
    obtain ⟨_, hb, hf, _⟩ := checkT_ok hc0
    have hck : ∀ f ∈ t.fs, checkF t.v f = 0 := fun f hx => (badIn_ok (hf f hx)).1
    have hbl := read_body t.v t.fs hck
    have hfl : t.fs.length ≤ 334 := by omega
    have hbt := bodyT_le t.v t.fl t.fs
    have hpl := printT_len t
    have hv0 : (t.v == 0) = false := by
      rcases letters_of h1 with e | e | e <;> rw [e] <;> rfl
    have hbo : ∀ f ∈ t.fs, f.bo.length ≤ 2000 := fun f hx => by have := h5 f hx; omega
    have PB := fun w => tparse_any (printT t ++ rest) w (by rw [List.length_append]; omega)
    rw [prT_print t rest hc0 (fun f hx => by have := hbo f hx; omega) (by omega)] at PB
    have PB2 := fun w => (PB w).mono (fun e w' => tpar_of ⟨t.v, t.rv, t.fl, placeF t.v 10 t.fs⟩ rest 0 0 t.fs.length (placeF_len t.v 10 t.fs) w w' e)
    have hid : ∀ f ∈ t.fs, f.id.length ≤ 1000000 ∧ f.bo.length ≤ 1000000 := fun f hx => ⟨by have := (named_pos (checkF_ok (hck f hx)).1).2.1; omega, by have := hbo f hx; omega⟩
    have hid2 : ∀ f ∈ placeF t.v 10 t.fs, f.id.length ≤ 1000000 ∧ f.bo.length ≤ 1000000 := by
      have key : ∀ (fs : List Fr) (p : Int), (∀ f ∈ fs, f.id.length ≤ 1000000 ∧ f.bo.length ≤ 1000000) → ∀ f ∈ placeF t.v p fs, f.id.length ≤ 1000000 ∧ f.bo.length ≤ 1000000 := by
        intro fs
        induction fs with
        | nil => intro p _ f hf; simp [placeF] at hf
        | cons g gs ih =>
          intro p hg f hf
          rw [placeF] at hf
          rcases List.mem_cons.1 hf with rfl | hf
          · exact hg g List.mem_cons_self
          · exact ih _ (fun x hx => hg x (List.mem_cons_of_mem _ hx)) f hf
      exact key t.fs 10 hid
    have PR := fun a cap w (hr : RecsAt w a t.fs.length 6 (t.fs.map frR)) => tprint_any t a t.fs.length cap w hr (by omega) hid (fun _ => by omega)
    rw [if_pos hc0, h3] at PR
    have PS := fun a cap w (hr : RecsAt w a t.fs.length 6 ((placeF t.v 10 t.fs).map frR)) => tprint_any ⟨t.v, t.rv, t.fl, placeF t.v 10 t.fs⟩ a t.fs.length cap w hr (by omega) hid2 (fun _ => by show (bodyL t.v (placeF t.v 10 t.fs)).length ≤ _; rw [placeF_body]; omega)
    rw [checkT_place, printT_place, if_pos hc0, h3] at PS
    refine ttwice_in l (printT t) rest t.v t.rv t.fl t.fs.length t.fs (placeF t.v 10 t.fs) (tb t.fl 128) (tb t.fl 128 || t.fs.any (fun f => spreadB t.v f.fm)) w h hv0 (by omega) rfl (by omega) (Lib.hid rfl) (Lib.hid ?_) (by omega) (Lib.hid (placeF_same t.v 10 t.fs)) (Lib.hid PA) (Lib.hid PB2) (Lib.hid PR) (Lib.hid PS) (Lib.hid fun w => tspread_any t.v t.rv t.fl w)
    intro hres
    rw [Bool.or_eq_false_iff] at hres
    refine h7 hres.1 (fun f hx => ?_)
    have := hres.2
    rw [List.any_eq_false] at this
    simpa using this f hx
end Go.Proofs.Ytmnmonmbdgedbaa
