/- Layer 4 (run): rows by their first codes, walked (over the shelf's contract of slices.SortFunc). -/
import Derived.Test.YtffhmjlojmoomaaGreatDoorZU5
import Derived.Shelf.SlSortCmp.WholeK

namespace Go.Proofs.YtffhmjlojmoomaaGreatDoor
open Go.RowKit
set_option linter.unusedVariables false
set_option linter.unusedSimpArgs false

theorem only_mapBlock (w : World) (b : Nat) (f : Array Value → Array Value) : Only b w (Sort.mapBlock w b f) := by
  refine ⟨rfl, rfl, rfl, by simp [Sort.mapBlock], fun k hk hne => ?_⟩
  have h : b ≠ k := fun e => hne (by rw [e])
  simp [Sort.mapBlock, Array.getElem?_modify, h]
theorem only_sort {α : Type} [Inhabited α] (enc : α → List Value) (k : Nat) (w : World) (b off m : Nat) (dk : Array α) (os : Array Obj) : Only b w (sortWorldK enc k w b off m dk os) := by
  have h1 : Only b w (Sort.putRowK enc k (Sort.ahead w m) b off dk) := by
    have h := only_mapBlock (Sort.ahead w m) b (Sort.putCells id off (Sort.flatK enc k dk))
    exact ⟨h.os, h.tape, h.output, h.size, h.block⟩
  refine ⟨h1.os, h1.tape, h1.output, ?_, fun j hj hne => ?_⟩
  · have := h1.size
    show w.heap.size ≤ ((Sort.putRowK enc k (Sort.ahead w m) b off dk).heap ++ os).size
    rw [Array.size_append]
    omega
  · have h2 := h1.block j hj hne
    show ((Sort.putRowK enc k (Sort.ahead w m) b off dk).heap ++ os)[j]? = _
    rw [Array.getElem?_append_left (by have := h1.size; omega)]
    exact h2
theorem holds_recs {α : Type} [Inhabited α] (enc : α → List Value) (k : Nat) (hk0 : 0 < k) {w : World} {base e g cap n : Nat} {L : List α} (h : Recs w base e k (.slice (some ⟨g, 0, none⟩) n cap) (L.map enc)) (hn : n = L.length) : Sort.HoldsK enc k w g 0 L.toArray := by
  have hl : (L.map enc).length = n := by rw [List.length_map, hn]
  have h2 := h.2
  rw [hl] at h2
  intro t ht
  have ht2 : t < L.length * k := by simpa using ht
  have hi : t / k < L.length := Nat.div_lt_of_lt_mul (by rw [Nat.mul_comm]; exact ht2)
  have hj : t % k < k := Nat.mod_lt _ hk0
  refine ⟨?_, ?_⟩
  · rw [Nat.zero_add, World.ownsRow.cellAt h2 t (by rw [hn]; exact ht2)]
    have e1 : t = t / k * k + t % k := by rw [Nat.mul_comm]; exact (Nat.div_add_mod t k).symm
    have hf := flat_get h.1 (t / k) (t % k) (by rw [List.length_map]; exact hi) hj
    rw [← e1] at hf
    rw [hf, List.getElem_map, Sort.get_flatK enc k _ t (by simpa using ht2)]
    have e2 : L.toArray[t / k]! = L[t / k] := by rw [getElem!_pos L.toArray (t / k) (by simpa using hi)]; simp
    have hlen : (enc L[t / k]).length = k := h.1 _ (List.mem_map.2 ⟨_, List.getElem_mem hi, rfl⟩)
    rw [e2, List.getElem?_eq_getElem (by omega), getElem!_pos (enc L[t / k]) (t % k) (by omega)]
    rfl
  · rw [Nat.zero_add]
    exact World.ownsRow.frozenAt h2 t
theorem recs_holds {α : Type} [Inhabited α] (enc : α → List Value) (k : Nat) {w : World} {g off : Nat} {L : List α} (hk : ∀ x, (enc x).length = k) (hg : g < w.heap.size) (h : Sort.HoldsK enc k w g off L.toArray) : RecsAt w (some ⟨g, off, none⟩) L.length k (L.map enc) := by
  refine ⟨by rw [List.length_map], by intro r hr; obtain ⟨x, _, rfl⟩ := List.mem_map.1 hr; exact hk x, .inr ⟨g, off, rfl, hg, fun i hi j hj => ?_⟩⟩
  have hil : i < L.length := by simpa using hi
  have hlt : i * k + j < L.length * k := by
    have : (i + 1) * k ≤ L.length * k := Nat.mul_le_mul_right _ hil
    rw [Nat.succ_mul] at this
    omega
  have h1 := (h (i * k + j) (by simpa using hlt)).1
  rw [Sort.get_flatK enc k _ _ (by simpa using hlt)] at h1
  have e1 : (i * k + j) / k = i := by rw [Nat.mul_comm, Nat.mul_add_div (by omega), Nat.div_eq_of_lt hj]; rfl
  have e2 : (i * k + j) % k = j := by rw [Nat.mul_comm, Nat.mul_add_mod, Nat.mod_eq_of_lt hj]
  have e3 : L.toArray[i]! = L[i] := by rw [getElem!_pos L.toArray i (by simpa using hil)]; simp
  have hl2 := hk L[i]
  rw [e1, e2, e3, getElem!_pos (enc L[i]) j (by omega)] at h1
  rw [h1, List.getElem_map, List.getElem?_eq_getElem (by omega)]
  rfl
instance : Inhabited Rv := ⟨⟨0, 0, 0, [], none, 0⟩⟩
def cfR (x y : Rv) : Int := Lib.compareInt x.fr y.fr
theorem rvR_len (x : Rv) : (rvR x).length = 4 := rfl
theorem cfR_swo : Sort.SWO (ltOf cfR) := by
  have key : ∀ x y : Rv, ltOf cfR x y = decide (x.fr < y.fr) := by
    intro x y
    unfold ltOf cfR Lib.compareInt
    by_cases h : x.fr < y.fr
    · rw [if_pos (by omega), decide_eq_true h]; rfl
    · rw [if_neg (by omega), decide_eq_false h]
      split <;> rfl
  refine ⟨fun x => ?_, fun x y z h1 h2 => ?_, fun x y z h1 h2 => ?_⟩
  · rw [key]; simp
  · rw [key] at *; simp at *; omega
  · rw [key] at *; simp at *; omega
theorem grow_two (w : World) (a b : Obj) : (w.alloc a).alloc b = Sort.grow (w.drewN 0) #[a, b] := by
  have h : (w.heap.push a).push b = w.heap ++ #[a, b] := by
    apply Array.ext'
    simp
  show ({ w with heap := (w.heap.push a).push b } : World) = { w with heap := w.heap ++ #[a, b] }
  rw [h]
set_option maxRecDepth 100000 in
theorem rcmp_any (x y : Rv) (w : World) : Calls Tryz.prog 130 #[.agg (rvR x).toArray, .agg (rvR y).toArray] w fun e w' => e = .returned (.int .i64 (cfR x y)) ∧ ∃ q os', w' = Sort.grow (w.drewN q) os' := by
  have CM := Lib.hid (fun w => Tryz.cmp_Compare_int (x.fr : Int) (y.fr : Int) w)
  unfold rvR cfR
  go_enter Tryz.func130, Tryz.ntmps130
  go_wp2_with (go_at_call 62; (with_reducible refine (CM.out _).mono ?_); rintro e wx ⟨rfl, rfl⟩)
  go_ret
  refine ⟨rfl, 0, #[.cells #[.int .i64 x.fr, .int .i64 x.ct, .int .i32 x.tp, .slice x.sa x.sg.length x.cp] 108, .cells #[.int .i64 y.fr, .int .i64 y.ct, .int .i32 y.tp, .slice y.sa y.sg.length y.cp] 108], ?_⟩
  exact grow_two _ _ _
theorem one_rvR (x : Rv) : ∀ u ∈ rvR x, u.oneCell' = true := by
  intro u hu
  simp only [rvR, List.mem_cons, List.not_mem_nil, or_false] at hu
  rcases hu with rfl | rfl | rfl | rfl <;> rfl
theorem sorted_unique {L L' : List Rv} (hp : L'.Perm L) (hs : L'.Pairwise (fun a b => ¬ b.fr < a.fr)) (hs2 : L.Pairwise (fun a b => a.fr < b.fr)) : L' = L := by
  refine hp.eq_of_pairwise (le := fun a b => a.fr ≤ b.fr) ?_ (hs.imp (fun h => by omega)) (hs2.imp (fun h => by omega))
  intro a b ha hb h1 h2
  have ha := hp.mem_iff.1 ha
  obtain ⟨i, hi, rfl⟩ := List.getElem_of_mem ha
  obtain ⟨j, hj, rfl⟩ := List.getElem_of_mem hb
  have key := List.pairwise_iff_getElem.1 hs2
  rcases Nat.lt_trichotomy i j with h | h | h
  · have := key i j hi hj h; omega
  · subst h; rfl
  · have := key j i hj hi h; omega
set_option maxHeartbeats 1000000 in
set_option maxRecDepth 100000 in
theorem byfrom_any (base g cap n : Nat) (L : List Rv) (w : World) (hn : n = L.length) (hn9 : n ≤ 1000000000) (h : Recs w base 108 4 (.slice (some ⟨g, 0, none⟩) n cap) (L.map rvR)) :
    Calls Tryz.prog 103 #[.slice (some ⟨g, 0, none⟩) n cap] w fun e w' => e = .returned (.tuple #[]) ∧ ∃ L' : List Rv, L'.Perm L ∧ L'.Pairwise (fun a b => ¬ b.fr < a.fr) ∧ RecsAt w' (some ⟨g, 0, none⟩) n 4 (L'.map rvR) ∧ Only g w w' := by
  have hg := (h.lt g rfl).2
  have hH := holds_recs rvR 4 (by decide) h hn
  have SF := AnyQ.slices_SortFunc (P := Tryz.prog) Tryz.laysSR 4 (fun w => Tryz.isAgg108 w) (fun w => Tryz.sizeOf108 w) rvR rvR_len one_rvR cfR cfR_swo 130 #[] g 0 cap L.toArray w (enters_of Tryz.func130 (by kernel_rfl) rfl) (fun m os dk hdk x y => rcmp_any x y _) hH hg (by show L.length < _; omega)
  have SF2 : Hid (Calls Tryz.prog 129 #[.slice (some ⟨g, 0, none⟩) n cap, .func (.func 130) #[] #[]] w fun e w' => e = .returned (.tuple #[]) ∧ ∃ L' : List Rv, L'.Perm L ∧ L'.Pairwise (fun a b => ¬ b.fr < a.fr) ∧ RecsAt w' (some ⟨g, 0, none⟩) n 4 (L'.map rvR) ∧ Only g w w') := by
    subst hn
    refine Lib.hid (Calls.mono SF ?_)
    rintro e w' ⟨he, d', m, os, hp, hs, rfl⟩
    refine ⟨he, d'.toList, ?_, ?_, ?_, only_sort _ _ _ _ _ _ _ _⟩
    · have h1 := hp.2.2
      have h2 : d'.extract 0 L.toArray.size = d' := by rw [← hp.1]; simp
      rw [h2] at h1
      simpa using h1
    · refine List.pairwise_iff_getElem.2 (fun i j hi hj hij => ?_)
      have hi' : i < d'.size := by simpa using hi
      have hj' : j < d'.size := by simpa using hj
      have h1 := hs i j (Nat.zero_le _) hij (by rw [← hp.1]; exact hj')
      rw [getElem!_pos d' i hi', getElem!_pos d' j hj'] at h1
      have e1 : d'.toList[i] = d'[i] := by simp
      have e2 : d'.toList[j] = d'[j] := by simp
      rw [e1, e2]
      intro h2
      unfold ltOf cfR Lib.compareInt at h1
      rw [if_pos (by omega)] at h1
      cases h1
    · have hh := holdsK_sortWorldK rvR 4 w g 0 m L.toArray d' os hg hH hp.1
      have hlt := lt_sortWorldK rvR 4 w g 0 m d' os hg
      have hh2 : Sort.HoldsK rvR 4 (sortWorldK rvR 4 w g 0 m d' os) g 0 d'.toList.toArray := by simpa using hh
      have h3 := recs_holds rvR 4 rvR_len hlt hh2
      have h4 : d'.toList.length = L.length := by have := hp.1; simpa using this
      rw [h4] at h3
      exact h3
  clear SF hH h hn hn9
  go_enter Tryz.func103, Tryz.ntmps103
  go_wp2_with (go_at_call 129; (with_reducible refine SF2.out.mono ?_); rintro e w1 ⟨rfl, hr⟩)
  go_end0
  exact ⟨rfl, hr⟩
end Go.Proofs.YtffhmjlojmoomaaGreatDoor
