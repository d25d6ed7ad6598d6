/- The evaluator for this program: what is known of the library's functions. | The evaluator: the rules for this program, but strings.Join. | The evaluator: the rule for strings.Join; all rules. | The evaluator: the package's variables as the rows lay them. -/
import Derived.Test.YtndpcphmndfajaaGreatDoorZEv1
import Derived.Test.YtndpcphmndfajaaGreatDoorProg
import GoSem.PinnedTables
import Derived.Test.YtndpcphmndfajaaGreatDoorZEv20
import Derived.Test.YtndpcphmndfajaaGreatDoorShelf
import Derived.Lib.Bytealg
import Derived.Lib.Index
import Derived.Conc.MuLone
import Derived.Laws.Externs
import Derived.Lib.Join
import Derived.Test.YtndpcphmndfajaaGreatDoorRows
import Derived.Lib.LaidU8
import Derived.Deep.DeepHandedRow
import Derived.Deep.DeepWitnessRowRef
import Derived.Shelf.Vars

namespace Go.Proofs.YtndpcphmndfajaaGreatDoor
set_option linter.unusedVariables false

def idxByte (c : Nat) : List Nat → Nat → Int
  | [], _ => -1
  | a :: l, i => match Nat.beq a c with
    | true => Int.ofNat i
    | false => idxByte c l (i + 1)
def cntByte (c : Nat) : List Nat → Nat → Nat
  | [], n => n
  | a :: l, n => match Nat.beq a c with
    | true => cntByte c l (n + 1)
    | false => cntByte c l n
def preN : List Nat → List Nat → Bool
  | [], _ => true
  | _ :: _, [] => false
  | a :: x, b :: y => match Nat.beq a b with
    | true => preN x y
    | false => false
def idxSub (b : List Nat) : List Nat → Nat → Int
  | [], i => match b with | [] => Int.ofNat i | _ => -1
  | a :: l, i => match preN b (a :: l) with
    | true => Int.ofNat i
    | false => idxSub b l (i + 1)
def repN (l : List Nat) : Nat → List Nat
  | 0 => []
  | n + 1 => l ++ repN l n
def joinS (sep : List Nat) : List SV → Option (List Nat)
  | [] => some []
  | [.s a] => some a
  | .s a :: l => match joinS sep l with
    | some r => some (a ++ (sep ++ r))
    | none => none
  | _ => none

def lenN : List Nat → Nat → Nat
  | [], n => n
  | _ :: l, n => lenN l (n + 1)
def okO {α : Type} : Bool → α → Option α
  | true, a => some a
  | false, _ => none
def pByte : List SV → Option SV
  | [.s l, .i .u8 (.ofNat c)] => okO (Nat.blt c 256) (.i .i64 (idxByte c l 0))
  | _ => none
def pIndex : List SV → Option SV
  | [.s l, .s b] => okO (Nat.blt (lenN l 0) 4294967281) (.i .i64 (idxSub b l 0))
  | _ => none
def pRepeat : List SV → Option SV
  | [.s l, .i .i64 (.ofNat n)] => okO (Nat.ble n 9223372036854775807 && Nat.ble (lenN l 0 * n) 140737488355328) (.s (repN l n))
  | _ => none
def pCount : List SV → Option SV
  | [.s l, .i .u8 (.ofNat c)] => okO (Nat.blt c 256) (.i .i64 (Int.ofNat (cntByte c l 0)))
  | _ => none
def pureF (f : FuncId) (args : List SV) : Option SV :=
  match Nat.beq f 345 with
  | true => pByte args
  | false => match Nat.beq f 326 with
    | true => pIndex args
    | false => match Nat.beq f 242 with
      | true => pRepeat args
      | false => match Nat.beq f 386 with
        | true => pCount args
        | false => none
def joinK : Option (List Nat) → Nat → Option SV
  | some l, n => okO (Nat.ble (lenN l 0) 140737488355328 && Nat.ble n 140737488355328) (.s l)
  | none, _ => none
def lenS : List SV → Nat → Nat
  | [], n => n
  | _ :: l, n => lenS l (n + 1)
def oJoin (cs : List SV) : List SV → Option SV
  | [.s sep] => joinK (joinS sep cs) (lenS cs 0)
  | _ => none
def overF (f : FuncId) (cs args : List SV) : Option SV :=
  match Nat.beq f 132 with
  | true => oJoin cs args
  | false => none
noncomputable def E0 : Env := ⟨Tryz.prog, 5, pureF, Nat.beq 132, overF⟩
/-- The package's variables. -/
def g8 (l : List Nat) : List SV := l.map fun n => .i .u8 (Int.ofNat n)
def gStarts : List SV := [.s [73, 68, 51], .i .i64 1, .s [79, 103, 103, 83], .i .i64 2, .s [102, 76, 97, 67], .i .i64 3]
def gRanges : List Nat := [128, 191, 160, 191, 128, 159, 144, 191, 128, 143, 0, 0, 0, 0, 0, 0, 0, 0, 0, 0, 0, 0, 0, 0, 0, 0, 0, 0, 0, 0, 0, 0]
def gBruijn : List Nat := [0, 1, 28, 2, 29, 14, 24, 3, 30, 22, 20, 15, 25, 17, 4, 8, 31, 27, 13, 23, 21, 19, 16, 7, 26, 12, 18, 6, 11, 5, 10, 9]
def G0 : TR LB := ((((TR.e : TR LB).set 1 0 (some (.cells gStarts 0))).set 2 1 (some (.cells (g8 Go.Pinned.utf8FirstZ) 0))).set 3 2 (some (.cells (g8 gRanges) 0))).set 5 4 (some (.cells (g8 gBruijn) 0))

end Go.Proofs.YtndpcphmndfajaaGreatDoor

namespace Go.Proofs.YtndpcphmndfajaaGreatDoor
open Go.RowKit
set_option linter.unusedVariables false
set_option linter.unusedSimpArgs false

theorem okO_inv {α : Type} {b : Bool} {a v : α} (h : okO b a = some v) : b = true ∧ v = a := by
  cases b
  · cases h
  · exact ⟨rfl, (Option.some.inj h).symm⟩
theorem lenN_eq : ∀ (l : List Nat) (n : Nat), lenN l n = n + l.length
  | [], n => rfl
  | _ :: l, n => by rw [lenN, lenN_eq l, List.length_cons]; omega
theorem bs_list0 (l : List Nat) : (bs l).data.toList = l.map UInt8.ofNat := by simp [bs]
theorem u8_beq {a b : Nat} (ha : a < 256) (hb : b < 256) : (UInt8.ofNat a == UInt8.ofNat b) = Nat.beq a b := by
  rw [Bool.eq_iff_iff, beq_iff_eq, Nat.beq_eq]
  constructor
  · intro h
    have := congrArg UInt8.toNat h
    simpa [UInt8.toNat_ofNat, Nat.mod_eq_of_lt ha, Nat.mod_eq_of_lt hb] using this
  · rintro rfl; rfl

theorem idxByte_eq {c : Nat} (hc : c < 256) : ∀ (l : List Nat) (i : Nat), (∀ x ∈ l, x < 256) → idxByte c l i = if Lib.indexByte (l.map UInt8.ofNat) (UInt8.ofNat c) == -1 then -1 else Lib.indexByte (l.map UInt8.ofNat) (UInt8.ofNat c) + i
  | [], i, _ => by simp [idxByte, Lib.indexByte]
  | a :: l, i, h => by
    have ih := idxByte_eq hc l (i + 1) (fun x hx => h x (List.mem_cons_of_mem _ hx))
    have hg := Lib.indexByte_ge (l.map UInt8.ofNat) (UInt8.ofNat c)
    have e := u8_beq (h a List.mem_cons_self) hc
    rw [idxByte, List.map_cons, Lib.indexByte, e]
    cases hn : Nat.beq a c with
    | true => simp
    | false =>
      simp only [Bool.false_eq_true, if_false, ih]
      by_cases h1 : Lib.indexByte (l.map UInt8.ofNat) (UInt8.ofNat c) = -1
      · simp [h1]
      · have h2 : (Lib.indexByte (l.map UInt8.ofNat) (UInt8.ofNat c) == -1) = false := by simpa using h1
        have h3 : (Lib.indexByte (l.map UInt8.ofNat) (UInt8.ofNat c) + 1 == -1) = false := by
          rw [beq_eq_false_iff_ne]; omega
        simp only [h2, h3, Bool.false_eq_true, if_false]
        omega
theorem idxByte_lib {c : Nat} (hc : c < 256) {l : List Nat} (h : ∀ x ∈ l, x < 256) : idxByte c l 0 = Lib.indexByte (l.map UInt8.ofNat) (UInt8.ofNat c) := by
  rw [idxByte_eq hc l 0 h]
  by_cases h1 : Lib.indexByte (l.map UInt8.ofNat) (UInt8.ofNat c) = -1 <;> simp [h1]

theorem cntByte_eq {c : Nat} (hc : c < 256) : ∀ (l : List Nat) (i : Nat), (∀ x ∈ l, x < 256) → cntByte c l i = i + Lib.countByte (l.map UInt8.ofNat) (UInt8.ofNat c)
  | [], i, _ => by simp [cntByte, Lib.countByte]
  | a :: l, i, h => by
    have e := u8_beq (h a List.mem_cons_self) hc
    have ih : ∀ i, cntByte c l i = i + Lib.countByte (l.map UInt8.ofNat) (UInt8.ofNat c) := fun i => cntByte_eq hc l i (fun x hx => h x (List.mem_cons_of_mem _ hx))
    unfold Lib.countByte at ih ⊢
    rw [cntByte, List.map_cons, List.count_cons, e]
    cases hn : Nat.beq a c <;> simp [ih] <;> omega

theorem preN_eq : ∀ (b l : List Nat), (∀ x ∈ b, x < 256) → (∀ x ∈ l, x < 256) → preN b l = (b.map UInt8.ofNat).isPrefixOf (l.map UInt8.ofNat)
  | [], l, _, _ => by cases l <;> simp [preN]
  | _ :: _, [], _, _ => by simp [preN]
  | a :: x, b :: y, h1, h2 => by
    have e := u8_beq (h1 a List.mem_cons_self) (h2 b List.mem_cons_self)
    have ih := preN_eq x y (fun z hz => h1 z (List.mem_cons_of_mem _ hz)) (fun z hz => h2 z (List.mem_cons_of_mem _ hz))
    rw [preN, List.map_cons, List.map_cons, List.isPrefixOf, e, ih]
    cases hn : Nat.beq a b <;> simp

theorem idxSub_eq {b : List Nat} (hb : ∀ x ∈ b, x < 256) : ∀ (l : List Nat) (i : Nat), (∀ x ∈ l, x < 256) → idxSub b l i = if Lib.index (l.map UInt8.ofNat) (b.map UInt8.ofNat) == -1 then -1 else Lib.index (l.map UInt8.ofNat) (b.map UInt8.ofNat) + i
  | [], i, _ => by cases b <;> simp [idxSub, Lib.index]
  | a :: l, i, h => by
    have ih := idxSub_eq hb l (i + 1) (fun x hx => h x (List.mem_cons_of_mem _ hx))
    have hg := Lib.index_ge (l.map UInt8.ofNat) (b.map UInt8.ofNat)
    have e := preN_eq b (a :: l) hb h
    rw [idxSub, List.map_cons, Lib.index, ← List.map_cons, ← e]
    cases hn : preN b (a :: l) with
    | true => simp
    | false =>
      simp only [Bool.false_eq_true, if_false, ih]
      by_cases h1 : Lib.index (l.map UInt8.ofNat) (b.map UInt8.ofNat) = -1
      · simp [h1]
      · have h2 : (Lib.index (l.map UInt8.ofNat) (b.map UInt8.ofNat) == -1) = false := by simpa using h1
        have h3 : (Lib.index (l.map UInt8.ofNat) (b.map UInt8.ofNat) + 1 == -1) = false := by
          rw [beq_eq_false_iff_ne]; omega
        simp only [h2, h3, Bool.false_eq_true, if_false]
        omega
theorem idxSub_lib {b l : List Nat} (hb : ∀ x ∈ b, x < 256) (h : ∀ x ∈ l, x < 256) : idxSub b l 0 = Lib.index (l.map UInt8.ofNat) (b.map UInt8.ofNat) := by
  rw [idxSub_eq hb l 0 h]
  by_cases h1 : Lib.index (l.map UInt8.ofNat) (b.map UInt8.ofNat) = -1 <;> simp [h1]

theorem repN_lib (l : List Nat) : ∀ n, (repN l n).map UInt8.ofNat = Lib.repeatL (l.map UInt8.ofNat) n
  | 0 => rfl
  | n + 1 => by rw [repN, Lib.repeatL, List.map_append, repN_lib l n]
theorem repN_small {l : List Nat} (h : ∀ x ∈ l, x < 256) : ∀ n, ∀ x ∈ repN l n, x < 256
  | 0, x, hx => by cases hx
  | n + 1, x, hx => by
    rw [repN, List.mem_append] at hx
    rcases hx with hx | hx
    · exact h x hx
    · exact repN_small h n x hx

section
variable {X : Cx}
theorem callsim_value {f : FuncId} {args : List SV} {v : SV} (hg : grs args = true) (hgv : gr v = true) (h : ∀ w us, VRs (ren0 0) args us → ∃ u, (callFunc f us.toArray).run X.E.P w = .ok (.value u) w ∧ VR (ren0 0) v u) (S : St) : CallSim X f args S S v := fun hok =>
  ⟨hok, .refl _, fun F ρ w us hw hf hm hus o a K Q hp => by
    obtain ⟨u, h1, h2⟩ := h w us (hus.gr hg)
    rw [h1]
    exact hp u w ρ (h2.gr hgv) (stp_below (Below.refl _ _)) ((mr_below hm (Below.refl _ _)).sub FN.same)⟩
end

theorem enter0 : (Tryz.prog.funcs.toList.all fun fn => !(fn.name == "runtime.NumGoroutine")) = true := by decide +kernel
theorem enterE (f : FuncId) (fn : Func) (c : Code) (hf : Tryz.prog.funcs[f]? = some fn) (hb : fn.body = some c) (args : Array Value) (w : World) : (callFunc f args).run Tryz.prog w = .ok (.enter f args) w := by
  refine Go.MuLone.run_callFunc_enter hf ?_ hb args w
  have := List.all_eq_true.1 enter0 fn (Array.mem_toList_iff.2 (Array.mem_of_getElem? hf))
  simpa using this

/-- What of the start's world the rules lean on: the machine's MaxLen lies in the world. -/
def MxL (w : World) : Prop := ∃ m, w.cell? ⟨3, 0, none⟩ = some (.int .i64 m) ∧ 3 < w.heap.size
theorem MxL.below {w w' : World} (h : MxL w) (hb : Below w.heap.size w w') : MxL w' := by
  obtain ⟨m, h1, h2⟩ := h
  exact ⟨m, (hb.cell (p := ⟨3, 0, none⟩) h2).trans h1, Nat.lt_of_lt_of_le h2 hb.size⟩

theorem toU8 {c : Nat} (hc : c < 256) : (Int.ofNat c).toNat.toUInt8 = UInt8.ofNat c := rfl

theorem tells_index {w0 : World} (h0 : MxL w0) {l b : List Nat} (hl : l.length < 4294967281) : Tells ⟨E0, w0⟩ 326 [.s l, .s b] (.i .i64 (idxSub b l 0)) := by
  intro w hw us hus
  obtain ⟨u1, u2, rfl, h1, h2⟩ := vrs_two hus
  simp only [VR] at h1 h2
  obtain ⟨rfl, h1⟩ := h1
  obtain ⟨rfl, h2⟩ := h2
  obtain ⟨m, hm, _⟩ := h0.below hw
  refine (Tryz.strings_Index (bs l) (bs b) m w (by rw [bs_size]; exact hl) hm).mono ?_
  rintro e w' ⟨rfl, rfl⟩
  refine ⟨_, rfl, ?_, Below.refl _ _⟩
  simp only [VR]
  rw [idxSub_lib h2 h1, bs_list0, bs_list0]
theorem tells_repeat {w0 : World} {l : List Nat} {n : Nat} (hn : n ≤ 9223372036854775807) (hl : l.length * n ≤ 140737488355328) : Tells ⟨E0, w0⟩ 242 [.s l, .i .i64 (.ofNat n)] (.s (repN l n)) := by
  intro w hw us hus
  obtain ⟨u1, u2, rfl, h1, h2⟩ := vrs_two hus
  simp only [VR] at h1 h2
  obtain ⟨rfl, h1⟩ := h1
  subst h2
  refine (Tryz.strings_Repeat (bs l) n w hn (by rw [bs_size]; exact hl)).mono ?_
  rintro e w' ⟨rfl, hb⟩
  refine ⟨_, rfl, ?_, hb⟩
  simp only [VR]
  refine ⟨?_, repN_small h1 n⟩
  rw [bs_list0, ← repN_lib]
  rfl

theorem pure0 {w0 : World} (h0 : MxL w0) (f : FuncId) (args : List SV) (v : SV) (h : pureF f args = some v) (S : St) : CallSim ⟨E0, w0⟩ f args S S v := by
  unfold pureF at h
  cases hf : Nat.beq f 345 with
  | true =>
    rw [hf] at h
    have hf := Nat.eq_of_beq_eq_true hf
    subst hf
    simp only [] at h
    unfold pByte at h
    split at h
    · rename_i l c
      obtain ⟨hc, rfl⟩ := okO_inv h
      have hc : c < 256 := by simpa using hc
      refine callsim_value rfl rfl (fun w us hus => ?_) S
      obtain ⟨u1, u2, rfl, h1, h2⟩ := vrs_two hus
      simp only [VR] at h1 h2
      obtain ⟨rfl, h1⟩ := h1
      subst h2
      refine ⟨.int .i64 (idxByte c l 0), ?_, by simp only [VR]⟩
      refine (run_callFunc_extern (Tryz.func345) (by kernel_rfl) (by kernel_rfl) (by kernel_rfl) (e := Extern.BytealgIndexByte.indexByte) (by kernel_rfl) _ w).trans ?_
      rw [Lib.run_indexByteString, Result.andThen_ok, idxByte_lib hc h1, bs_list0]
      rfl
    · cases h
  | false =>
    rw [hf] at h
    simp only [] at h
    cases hf2 : Nat.beq f 326 with
    | true =>
      rw [hf2] at h
      have hf2 := Nat.eq_of_beq_eq_true hf2
      subst hf2
      simp only [] at h
      unfold pIndex at h
      split at h
      · rename_i l b
        obtain ⟨hc, rfl⟩ := okO_inv h
        have hc : l.length < 4294967281 := by simpa [lenN_eq] using hc
        exact callsim_of_tells rfl rfl (tells_index h0 hc) (fun us w => enterE _ _ _ Tryz.func326 rfl us w) S
      · cases h
    | false =>
      rw [hf2] at h
      simp only [] at h
      cases hf3 : Nat.beq f 242 with
      | true =>
        rw [hf3] at h
        have hf3 := Nat.eq_of_beq_eq_true hf3
        subst hf3
        simp only [] at h
        unfold pRepeat at h
        split at h
        · rename_i l n
          obtain ⟨hc, rfl⟩ := okO_inv h
          rw [Bool.and_eq_true] at hc
          have hc1 : n ≤ 9223372036854775807 := Nat.le_of_ble_eq_true hc.1
          have hc2 : l.length * n ≤ 140737488355328 := by have := Nat.le_of_ble_eq_true hc.2; rwa [lenN_eq, Nat.zero_add] at this
          exact callsim_of_tells rfl rfl (tells_repeat hc1 hc2) (fun us w => enterE _ _ _ Tryz.func242 rfl us w) S
        · cases h
      | false =>
        rw [hf3] at h
        simp only [] at h
        cases hf4 : Nat.beq f 386 with
        | false => rw [hf4] at h; cases h
        | true =>
          rw [hf4] at h
          have hf4 := Nat.eq_of_beq_eq_true hf4
          subst hf4
          simp only [] at h
          unfold pCount at h
          split at h
          · rename_i l c
            obtain ⟨hc, rfl⟩ := okO_inv h
            have hc : c < 256 := by simpa using hc
            refine callsim_value rfl rfl (fun w us hus => ?_) S
            obtain ⟨u1, u2, rfl, h1, h2⟩ := vrs_two hus
            simp only [VR] at h1 h2
            obtain ⟨rfl, h1⟩ := h1
            subst h2
            refine ⟨.int .i64 (Int.ofNat (cntByte c l 0)), ?_, by simp only [VR]⟩
            refine (run_callFunc_extern (Tryz.func386) (by kernel_rfl) (by kernel_rfl) (by kernel_rfl) (e := Extern.BytealgCount.count) (by kernel_rfl) _ w).trans ?_
            rw [Lib.run_countString, Result.andThen_ok, cntByte_eq hc l 0 h1, bs_list0, Nat.zero_add]
            rfl
          · cases h
end Go.Proofs.YtndpcphmndfajaaGreatDoor

namespace Go.Proofs.YtndpcphmndfajaaGreatDoor
open Go.RowKit
set_option linter.unusedVariables false
set_option linter.unusedSimpArgs false

def joinN (sep : List Nat) : List (List Nat) → List Nat
  | [] => []
  | [a] => a
  | a :: b :: l => a ++ (sep ++ joinN sep (b :: l))
theorem joinN_lib (sep : List Nat) : ∀ ls : List (List Nat), (joinN sep ls).map UInt8.ofNat = Lib.join (ls.map (·.map UInt8.ofNat)) (sep.map UInt8.ofNat)
  | [] => rfl
  | [a] => by simp [joinN, Lib.join_one]
  | a :: b :: l => by
    rw [joinN, List.map_append, List.map_append, joinN_lib sep (b :: l)]
    simp [Lib.join, List.intercalate, List.intersperse]
theorem joinN_small {sep : List Nat} (hs : ∀ x ∈ sep, x < 256) : ∀ ls : List (List Nat), (∀ l ∈ ls, ∀ x ∈ l, x < 256) → ∀ x ∈ joinN sep ls, x < 256
  | [], _, x, hx => by cases hx
  | [a], h, x, hx => h a (by simp) x hx
  | a :: b :: l, h, x, hx => by
    rw [joinN, List.mem_append, List.mem_append] at hx
    rcases hx with hx | hx | hx
    · exact h a (by simp) x hx
    · exact hs x hx
    · exact joinN_small hs (b :: l) (fun l' hl' => h l' (List.mem_cons_of_mem _ hl')) x hx
theorem joinS_ok {ρ : Ren} {sep : List Nat} : ∀ {cs : List SV} {us : List Value} {l : List Nat}, joinS sep cs = some l → VRs ρ cs us →
    ∃ ls : List (List Nat), us = ls.map (fun l => .string (bs l)) ∧ (∀ l ∈ ls, ∀ x ∈ l, x < 256) ∧ l = joinN sep ls ∧ cs.length = ls.length
  | [], us, l, h, hv => by
    simp only [joinS, Option.some.injEq] at h
    subst h
    rw [vrs_nil] at hv
    subst hv
    exact ⟨[], rfl, by simp, rfl, rfl⟩
  | [x], us, l, h, hv => by
    obtain ⟨u, rfl, h1⟩ := vrs_one hv
    cases x <;> simp only [joinS, reduceCtorEq, Option.some.injEq] at h
    subst h
    simp only [VR] at h1
    obtain ⟨rfl, h1⟩ := h1
    exact ⟨[_], rfl, by simpa using h1, rfl, rfl⟩
  | x :: y :: r, us, l, h, hv => by
    simp only [VRs] at hv
    obtain ⟨u, us', rfl, h1, hv⟩ := hv
    have hv' : VRs ρ (y :: r) us' := by simp only [VRs]; exact hv
    cases x <;> simp only [joinS, reduceCtorEq] at h
    rename_i a
    cases hj : joinS sep (y :: r) with
    | none => rw [hj] at h; cases h
    | some l' =>
      rw [hj] at h
      simp only [Option.some.injEq] at h
      subst h
      obtain ⟨ls, rfl, h3, rfl, h4⟩ := joinS_ok hj hv'
      simp only [VR] at h1
      obtain ⟨rfl, h1⟩ := h1
      cases ls with
      | nil => cases h4
      | cons b ls =>
        exact ⟨a :: b :: ls, rfl, by
          intro l hl
          rcases List.mem_cons.1 hl with rfl | hl
          · exact h1
          · exact h3 l hl, rfl, by simpa using h4⟩
theorem lenS_eq : ∀ (l : List SV) (n : Nat), lenS l n = n + l.length
  | [], n => rfl
  | _ :: l, n => by rw [lenS, lenS_eq l, List.length_cons]; omega
theorem oJoin_inv {cs args : List SV} {v : SV} (h : oJoin cs args = some v) : ∃ sep l, args = [.s sep] ∧ joinS sep cs = some l ∧ l.length ≤ 140737488355328 ∧ cs.length ≤ 140737488355328 ∧ v = .s l := by
  unfold oJoin at h
  split at h
  · rename_i sep
    cases hj : joinS sep cs with
    | none => rw [hj] at h; cases h
    | some l =>
      rw [hj] at h
      obtain ⟨h1, h2⟩ := okO_inv h
      rw [Bool.and_eq_true] at h1
      have a := Nat.le_of_ble_eq_true h1.1
      have b := Nat.le_of_ble_eq_true h1.2
      rw [lenN_eq, Nat.zero_add] at a
      rw [lenS_eq, Nat.zero_add] at b
      exact ⟨sep, l, rfl, hj, a, b, h2⟩
  · cases h
theorem overF_inv {f : FuncId} {cs args : List SV} {v : SV} (h : overF f cs args = some v) : f = 132 ∧ oJoin cs args = some v := by
  unfold overF at h
  cases hf : Nat.beq f 132 with
  | true => rw [hf] at h; exact ⟨Nat.eq_of_beq_eq_true hf, h⟩
  | false => rw [hf] at h; cases h
theorem E0_P : E0.P = Tryz.prog := rfl
theorem E0_over : E0.over = overF := rfl

section
variable {X : Cx} {f : FuncId}
theorem join_some (he : ∀ us w, (callFunc f us).run X.E.P w = .ok (.enter f us) w)
    (hc : ∀ (bk o c : Nat) (xs : List ByteArray) (sep : ByteArray) (w : World), (∀ (j : Nat) x, xs[j]? = some x → w.cell? ⟨bk, o + j, none⟩ = some (.string x)) → bk < w.heap.size → xs.length ≤ 140737488355328 → xs.length ≤ c → (Lib.join (xs.map (·.data.toList)) sep.data.toList).length ≤ 140737488355328 →
      Calls X.E.P f #[.slice (some ⟨bk, o, none⟩) xs.length c, .string sep] w fun e w' => e = .returned (.string ⟨(Lib.join (xs.map (·.data.toList)) sep.data.toList).toArray⟩) ∧ Below w.heap.size w w')
    {S : St} {b o n : Nat} {c : Option Nat} {sep l : List Nat} {cs : List SV} (hr : rdCells S b o n = some cs) (hj : joinS sep cs = some l) (hl1 : l.length ≤ 140737488355328) (hl2 : cs.length ≤ 140737488355328) :
    CallSim X f [.sl b o n c, .s sep] S (S.saw b) (.s l) := by
  obtain ⟨cc, e, hb, hk, rfl⟩ := rdCells_inv hr
  intro hok
  refine ⟨hok, ext_saw _ _, fun F ρ w us hw hfr hm hus o' a K Q hp => ?_⟩
  have hF := wth_saw hw (hok b _ hb)
  obtain ⟨m, ob, g1, g2, g3⟩ := hm.hp b _ hF hb
  have hd : ¬ρ.d b := fun e => by rw [hm.dd b hF e] at hb; cases hb
  obtain ⟨u1, u2, rfl, g4, g5⟩ := vrs_two hus
  simp only [VR] at g4 g5
  obtain ⟨m', k, g6, g7, _, _, rfl⟩ := g4
  obtain rfl := hm.fn b m' m hd g6 g1
  obtain ⟨rfl, g5⟩ := g5
  obtain ⟨ca, bb, e', fz, g8, rfl, _⟩ := g3
  obtain ⟨ls, g9, g10, rfl, g11⟩ := joinS_ok hj ((g8.drop o).take n)
  have hn : ls.length = n := by rw [← g11]; simp; omega
  have hlm : m' < w.heap.size := (Array.getElem?_eq_some_iff.1 g2).1
  have hcells : ∀ (j : Nat) x, (ls.map bs)[j]? = some x → w.cell? ⟨m', o + j, none⟩ = some (.string x) := by
    intro j x hx
    refine cell_in g2 ?_
    rw [List.getElem?_map] at hx
    cases hls : ls[j]? with
    | none => rw [hls] at hx; cases hx
    | some y =>
      rw [hls] at hx
      simp only [Option.map_some, Option.some.injEq] at hx
      subst hx
      have hjl : j < ls.length := (List.getElem?_eq_some_iff.1 hls).1
      have : ((ca.drop o).take n)[j]? = some (.string (bs y)) := by rw [g9, List.getElem?_map, hls]; rfl
      rw [List.getElem?_take_of_lt (by omega), List.getElem?_drop] at this
      rw [List.getElem?_append_left (List.getElem?_eq_some_iff.1 this).1]
      exact this
  have hxs : ((ls.map bs).map (·.data.toList)) = ls.map (·.map UInt8.ofNat) := by
    rw [List.map_map]
    exact List.map_congr_left fun x _ => bs_list0 x
  have hlj : Lib.join ((ls.map bs).map (·.data.toList)) (bs sep).data.toList = (joinN sep ls).map UInt8.ofNat := by rw [hxs, bs_list0, joinN_lib]
  rw [he, Oper.upon_enter]
  have hc := hc m' o k (ls.map bs) (bs sep) w hcells hlm (by simp; simp at hl2; omega) (by simp; omega) (by rw [hlj]; simpa using hl1)
  rw [List.length_map, hn, hlj] at hc
  refine hc.mono ?_
  rintro e w' ⟨rfl, hbl⟩
  refine hp _ w' ρ ?_ (stp_below hbl) ((mr_below hm hbl).sub FN.same)
  simp only [VR]
  exact ⟨rfl, joinN_small g5 ls g10⟩
theorem join_none (he : ∀ us w, (callFunc f us).run X.E.P w = .ok (.enter f us) w)
    (hc : ∀ (sep : ByteArray) (w : World), Calls X.E.P f #[.slice none 0 0, .string sep] w fun e w' => e = .returned (.string ⟨#[]⟩) ∧ w' = w) {S : St} {sep : List Nat} : CallSim X f [.ns, .s sep] S S (.s []) := by
  intro hok
  refine ⟨hok, .refl _, fun F ρ w us hw hfr hm hus o' a K Q hp => ?_⟩
  obtain ⟨u1, u2, rfl, g4, g5⟩ := vrs_two hus
  simp only [VR] at g4 g5
  subst g4
  obtain ⟨rfl, g5⟩ := g5
  rw [he, Oper.upon_enter]
  refine (hc (bs sep) w).mono ?_
  rintro e w' ⟨rfl, rfl⟩
  refine hp _ w' ρ ?_ (stp_below (Below.refl _ _)) ((mr_below hm (Below.refl _ _)).sub FN.same)
  simp only [VR]
  exact ⟨rfl, by simp⟩
end

theorem over0 {w0 : World} (f : FuncId) (args : List SV) (S S' : St) (v : SV) (h : known args E0 f S = some (v, S')) : CallSim ⟨E0, w0⟩ f args S S' v := by
  have he : ∀ us w, (callFunc 132 us).run Tryz.prog w = .ok (.enter 132 us) w := fun us w => enterE _ _ _ Tryz.func132 rfl us w
  cases args with
  | nil => cases h
  | cons x rest =>
  cases x
  case sl b o n c =>
    simp only [known] at h
    split at h
    · cases hr : rdCells S b o n with
      | none => rw [hr] at h; cases h
      | some cs =>
        rw [hr] at h
        obtain ⟨h1, rfl⟩ := pairS_inv h
        rw [E0_over] at h1
        obtain ⟨rfl, h2⟩ := overF_inv h1
        obtain ⟨sep, l, rfl, hj, hl1, hl2, rfl⟩ := oJoin_inv h2
        exact join_some (X := ⟨E0, w0⟩) he Tryz.strings_Join hr hj hl1 hl2
    · cases h
  case ns =>
    simp only [known] at h
    split at h
    · obtain ⟨h1, rfl⟩ := pairS_inv h
      rw [E0_over] at h1
      obtain ⟨rfl, h2⟩ := overF_inv h1
      obtain ⟨sep, l, rfl, hj, hl1, hl2, rfl⟩ := oJoin_inv h2
      simp only [joinS, Option.some.injEq] at hj
      subst hj
      exact join_none (X := ⟨E0, w0⟩) he (Tryz.strings_Join_none none 0)
    · cases h
  all_goals cases h

theorem rules0 {w0 : World} (h0 : MxL w0) : Rules ⟨E0, w0⟩ where
  mixed := by
    show E0.P.follows .mixedOrders = true
    rw [E0_P]
    exact Tryz.lays156.mixed
  pure := fun f args v h S => pure0 h0 f args v h S
  over := fun f args S v S' h => over0 f args S S' v h
  enter := fun f fn c hf hb args w => enterE f fn c hf hb args w
end Go.Proofs.YtndpcphmndfajaaGreatDoor

namespace Go.Proofs.YtndpcphmndfajaaGreatDoor
open Go.RowKit Go.Lib
set_option linter.unusedVariables false
set_option linter.unusedSimpArgs false

theorem rowb0 : (((begin Tryz.prog (fun _ _ => 0) default).world.heap[0]?).bind Obj.row?).isSome = true := by kernel_rfl
theorem rowb1 : (((begin Tryz.prog (fun _ _ => 0) default).world.heap[1]?).bind Obj.row?).isSome = true := by kernel_rfl
theorem rowb2 : (((begin Tryz.prog (fun _ _ => 0) default).world.heap[2]?).bind Obj.row?).isSome = true := by kernel_rfl
theorem rowb3 : (((begin Tryz.prog (fun _ _ => 0) default).world.heap[3]?).bind Obj.row?).isSome = true := by kernel_rfl
theorem rowb4 : (((begin Tryz.prog (fun _ _ => 0) default).world.heap[4]?).bind Obj.row?).isSome = true := by kernel_rfl
theorem rows0 (g : Nat) (hg : g < 5) : (((begin Tryz.prog (fun _ _ => 0) default).world.heap[g]?).bind Obj.row?).isSome = true :=
  match g, hg with
  | 0, _ => rowb0
  | 1, _ => rowb1
  | 2, _ => rowb2
  | 3, _ => rowb3
  | 4, _ => rowb4
theorem gsize : Tryz.prog.globals.size = 5 := by kernel_rfl
theorem row_of {w : World} (h : w.ShapedOpen Tryz.prog) {g : Nat} (hg : g < 5) : ∃ cs t, w.heap[g]? = some (.cells cs t) := by
  obtain ⟨⟨zero, t⟩, hz⟩ := Option.isSome_iff_exists.1 (rows0 g hg)
  obtain ⟨cs, h1, _⟩ := h.1 g zero t (by rw [gsize]; exact hg) hz
  exact ⟨cs, t, h1⟩
theorem blk_of {w : World} (h : w.ShapedOpen Tryz.prog) {g k : Nat} (hg : g < 5) {n : String} {cs : Array Value} {vs : List Value} {l : List SV} {e : TypeId} (hn : Tryz.prog.globalNamed n = some g) (hv : w.var? Tryz.prog n = some cs)
    (hc : cs.toList.take k = vs) (hr : VRs (ren0 5) l vs) : ∃ o, w.heap[g]? = some o ∧ BR (ren0 5) (.cells l e) o := by
  obtain ⟨cs', t, h1⟩ := row_of h hg
  simp only [World.var?, hn, Option.bind_some, h1, Option.some.injEq] at hv
  subst hv
  refine ⟨_, h1, vs, cs'.toList.drop k, t, (0, 0), hr, ?_, by intro j _; simp⟩
  rw [← hc, List.take_append_drop, Array.toArray_toList]
theorem vrs_g8 {ρ : Ren} : ∀ l : List Nat, VRs ρ (g8 l) ((l.map Int.ofNat).map fun z => Value.int .u8 z)
  | [] => by simp [g8, VRs]
  | a :: l => by
    have := vrs_g8 (ρ := ρ) l
    simp only [g8, List.map_cons, VRs] at this ⊢
    exact ⟨_, _, rfl, by simp only [VR], this⟩
theorem chunks (m : Nat) (f : Nat → List Value) (cs : List Value) : ∀ n, (∀ i, i < n → (cs.drop (i * m)).take m = f i) → cs.take (n * m) = (List.range n).flatMap f
  | 0, _ => by simp
  | n + 1, h => by
    rw [List.range_succ, List.flatMap_append, ← chunks m f cs n (fun i hi => h i (by omega)), Nat.succ_mul, List.take_add, h n (Nat.lt_succ_self n)]
    simp

def laid4 : List (String × DataW Unit) := [("math/bits.deBruijn32tab", Rows.laid_math_bits_deBruijn32tab), ("unicode/utf8.acceptRanges", Rows.laid_unicode_utf8_acceptRanges), ("diacritic/sniff.starts", Rows.laid_diacritic_sniff_starts), ("unicode/utf8.first", Rows.laid_unicode_utf8_first)]
theorem gS : Tryz.prog.globalNamed "diacritic/sniff.starts" = some 0 := by kernel_rfl
theorem gF : Tryz.prog.globalNamed "unicode/utf8.first" = some 1 := by kernel_rfl
theorem gA : Tryz.prog.globalNamed "unicode/utf8.acceptRanges" = some 2 := by kernel_rfl
theorem gB : Tryz.prog.globalNamed "math/bits.deBruijn32tab" = some 4 := by kernel_rfl
theorem tF : (Tryz.prog.globals[1]?).map (·.type) = some 270 := by kernel_rfl
theorem tA : (Tryz.prog.globals[2]?).map (·.type) = some 273 := by kernel_rfl
theorem tB : (Tryz.prog.globals[4]?).map (·.type) = some 390 := by kernel_rfl
theorem cU8 : Tryz.prog.cellsOf 5 = 1 := by kernel_rfl
theorem cF : Tryz.prog.cellsOf 270 = 256 := by kernel_rfl
theorem cAR : Tryz.prog.cellsOf 272 = 2 := by kernel_rfl
theorem cB : Tryz.prog.cellsOf 390 = 32 := by kernel_rfl
theorem first_data : Rows.laid_unicode_utf8_first = tabData .u8 (Go.Pinned.utf8FirstZ.map Int.ofNat) := by kernel_rfl
theorem de_data : (Rows.laid_math_bits_deBruijn32tab : DataW Unit) = tabData .u8 (gBruijn.map Int.ofNat) := by kernel_rfl
theorem accept_data : (Rows.laid_unicode_utf8_acceptRanges : DataW Unit) = .agg ((List.range 16).map fun i => .agg (([gRanges.getD (2 * i) 0, gRanges.getD (2 * i + 1) 0].map Int.ofNat).map fun z => .lit (.int .u8 z))) := by kernel_rfl
theorem gRanges_eq : ((List.range 16).flatMap fun i => [gRanges.getD (2 * i) 0, gRanges.getD (2 * i + 1) 0]) = gRanges := by decide +kernel

theorem blk_first {w : World} (hs : w.ShapedOpen Tryz.prog) (h : laidMet Tryz.prog laid4 w) : ∃ o, w.heap[1]? = some o ∧ BR (ren0 5) (.cells (g8 Go.Pinned.utf8FirstZ) 0) o := by
  have h3 := laidMet.reads h (n := "unicode/utf8.first") (d := Rows.laid_unicode_utf8_first) (.tail _ (.tail _ (.tail _ (.head _))))
  rw [first_data] at h3
  obtain ⟨g, t, cs, fuel, p, hg, hty, hvar, hd⟩ := h3
  obtain rfl := Option.some.inj (gF.symm.trans hg)
  obtain rfl := Option.some.inj (tF.symm.trans hty)
  have hcs := cells_of_tab Tryz.underlying270 Tryz.underlying5 cU8 cF hd
  exact blk_of hs (by decide) gF hvar (k := cs.toList.length) (by rw [List.take_length]; exact hcs) (vrs_g8 _)
theorem blk_de {w : World} (hs : w.ShapedOpen Tryz.prog) (h : laidMet Tryz.prog laid4 w) : ∃ o, w.heap[4]? = some o ∧ BR (ren0 5) (.cells (g8 gBruijn) 0) o := by
  have h3 := laidMet.reads h (n := "math/bits.deBruijn32tab") (d := Rows.laid_math_bits_deBruijn32tab) (.head _)
  rw [de_data] at h3
  obtain ⟨g, t, cs, fuel, p, hg, hty, hvar, hd⟩ := h3
  obtain rfl := Option.some.inj (gB.symm.trans hg)
  obtain rfl := Option.some.inj (tB.symm.trans hty)
  have hcs := cells_of_tab Tryz.underlying390 Tryz.underlying5 cU8 cB hd
  exact blk_of hs (by decide) gB hvar (k := cs.toList.length) (by rw [List.take_length]; exact hcs) (vrs_g8 _)
theorem blk_acc {w : World} (hs : w.ShapedOpen Tryz.prog) (h : laidMet Tryz.prog laid4 w) : ∃ o, w.heap[2]? = some o ∧ BR (ren0 5) (.cells (g8 gRanges) 0) o := by
  have h4 := laidMet.reads h (n := "unicode/utf8.acceptRanges") (d := Rows.laid_unicode_utf8_acceptRanges) (.tail _ (.head _))
  rw [accept_data] at h4
  obtain ⟨g, t, cs, fuel, p, hg, hty, hvar, hd⟩ := h4
  obtain rfl := Option.some.inj (gA.symm.trans hg)
  obtain rfl := Option.some.inj (tA.symm.trans hty)
  have hch : ∀ i, i < 16 → (cs.toList.drop (i * 2)).take 2 = ([gRanges.getD (2 * i) 0, gRanges.getD (2 * i + 1) 0].map Int.ofNat).map fun z => Value.int .u8 z := by
    intro i hi
    obtain ⟨fuel', d, q, hdi, he⟩ := array_elem Tryz.underlying273 hd i hi
    simp only [List.getElem?_map, List.getElem?_range hi, Option.map_some, Option.some.injEq] at hdi
    subst hdi
    rw [cAR] at he
    exact ints_of_struct Tryz.underlying272 (fun j f hj => by
      match j, hj with
      | 0, hj => simp at hj; subst hj; exact ⟨Tryz.underlying5, rfl, cU8⟩
      | 1, hj => simp at hj; subst hj; exact ⟨Tryz.underlying5, rfl, cU8⟩
      | j + 2, hj => simp at hj) (by rw [cAR]; rfl) he
  have hc := chunks 2 _ cs.toList 16 hch
  refine blk_of hs (by decide) gA hvar hc ?_
  have e : ((List.range 16).flatMap fun i => ([gRanges.getD (2 * i) 0, gRanges.getD (2 * i + 1) 0].map Int.ofNat).map fun z => Value.int .u8 z) = (gRanges.map Int.ofNat).map fun z => Value.int .u8 z := by
    conv => rhs; rw [← gRanges_eq]
    simp only [List.map_flatMap]
  rw [e]
  exact vrs_g8 _

theorem list_two {α : Type} {l : List α} (h : l.length = 2) : ∃ a b, l = [a, b] := by
  match l, h with
  | [a, b], _ => exact ⟨a, b, rfl⟩
theorem two_of_struct {H : Type} {enc : TypeId × Value → H} {P : Program} {w : World} {base : Nat} {sp : Nat → Bool} {held : Bool} {fuel : Nat} {t : TypeId} {fs : Array Field} {f0 f1 : Field} {k : IntKind} {cs : List Value} {a : List UInt8} {z : Int} {p : List MemPlace}
    (ht : P.underlying t = some (.struct fs)) (h0 : fs[0]? = some f0) (h1 : fs[1]? = some f1) (u0 : P.underlying f0.type = some .string) (u1 : P.underlying f1.type = some (.int k)) (o0 : f0.offset = 0) (o1 : f1.offset = 1) (c0 : P.cellsOf f0.type = 1) (c1 : P.cellsOf f1.type = 1) (hct : P.cellsOf t = 2)
    (h : DataW.trod enc P w base sp held fuel t cs = some (.agg [.lit (.string a), .lit (.int k z)], p)) : cs = [.string ⟨a.toArray⟩, .int k z] := by
  obtain ⟨xs, n, rfl, hx, hl, hxl, hall⟩ := DataW.trod_struct ht h
  have hxs : xs.map (·.1) = [(DataW.lit (.string a) : DataW H), .lit (.int k z)] := by
    have := congrArg Prod.fst hx
    simpa using this.symm
  have g0 := hall 0 f0 h0
  have g1 := hall 1 f1 h1
  rw [o0, c0] at g0
  rw [o1, c1] at g1
  obtain ⟨x0, x1, rfl⟩ := list_two (show xs.length = 2 by have := congrArg List.length hxs; simpa using this)
  · simp only [List.map_cons, List.map_nil, List.cons.injEq, and_true] at hxs
    obtain ⟨e0, e1⟩ := hxs
    obtain ⟨s, hs1, rfl, _⟩ := DataW.trod_string u0 (show _ = some x0 from g0)
    obtain ⟨z', hz1, rfl, _⟩ := DataW.trod_int u1 (show _ = some x1 from g1)
    simp only [DataW.lit.injEq, Lit.string.injEq, Lit.int.injEq, true_and] at e0 e1
    subst e0
    subst e1
    rw [hct] at hl
    obtain ⟨v0, v1, rfl⟩ := list_two hl
    simp at hs1 hz1
    subst hs1
    subst hz1
    rfl
def stName (i : Nat) : List Nat := [[73, 68, 51], [79, 103, 103, 83], [102, 76, 97, 67]].getD i []
theorem starts_data : (Rows.laid_diacritic_sniff_starts : DataW Unit) = .agg ((List.range 3).map fun i => .agg [.lit (.string ((stName i).map UInt8.ofNat)), .lit (.int .i64 (Int.ofNat (i + 1)))]) := by kernel_rfl
theorem tS : (Tryz.prog.globals[0]?).map (·.type) = some 71 := by kernel_rfl
theorem cSt : Tryz.prog.cellsOf 70 = 2 := by kernel_rfl
theorem blk_starts {w : World} (hs : w.ShapedOpen Tryz.prog) (h : laidMet Tryz.prog laid4 w) : ∃ o, w.heap[0]? = some o ∧ BR (ren0 5) (.cells gStarts 0) o := by
  have h4 := laidMet.reads h (n := "diacritic/sniff.starts") (d := Rows.laid_diacritic_sniff_starts) (.tail _ (.tail _ (.head _)))
  rw [starts_data] at h4
  obtain ⟨g, t, cs, fuel, p, hg, hty, hvar, hd⟩ := h4
  obtain rfl := Option.some.inj (gS.symm.trans hg)
  obtain rfl := Option.some.inj (tS.symm.trans hty)
  have hch : ∀ i, i < 3 → (cs.toList.drop (i * 2)).take 2 = [Value.string (bs (stName i)), Value.int .i64 (Int.ofNat (i + 1))] := by
    intro i hi
    obtain ⟨fuel', d, q, hdi, he⟩ := array_elem Tryz.underlying71 hd i hi
    simp only [List.getElem?_map, List.getElem?_range hi, Option.map_some, Option.some.injEq] at hdi
    subst hdi
    rw [cSt] at he
    exact two_of_struct Tryz.underlying70 rfl rfl Tryz.underlying9 Tryz.underlying23 rfl rfl (by kernel_rfl) (by kernel_rfl) cSt he
  have hc := chunks 2 _ cs.toList 3 hch
  refine blk_of hs (by decide) gS hvar hc ?_
  simp only [List.range, List.range.loop, List.flatMap_cons, List.flatMap_nil, List.append_nil, List.cons_append, List.nil_append, gStarts, VRs, stName]
  refine ⟨_, _, rfl, ?_, _, _, rfl, ?_, _, _, rfl, ?_, _, _, rfl, ?_, _, _, rfl, ?_, _, _, rfl, ?_, rfl⟩ <;> simp [VR]

theorem mx_of {w : World} (h : w.ShapedOpen Tryz.prog) : MxL w := by
  obtain ⟨m, hm⟩ := cell_of_shapedOpen_int (P := Tryz.prog) (g := 3) (t := 3) (zero := #[.int .i64 0]) (k := .i64) h (of_decide_eq_true (by kernel_rfl)) (by kernel_rfl) rfl (by kernel_rfl) (by kernel_rfl) Tryz.underlying3
  obtain ⟨cs, t, h1⟩ := row_of h (g := 3) (by decide)
  exact ⟨m, hm, (Array.getElem?_eq_some_iff.1 h1).1⟩

theorem laid0 {w : World} (hs : w.ShapedOpen Tryz.prog) (h : laidMet Tryz.prog laid4 w) : Laid ⟨E0, w⟩ G0 where
  ng := by
    obtain ⟨o, h1, _⟩ := blk_de hs h
    exact (Array.getElem?_eq_some_iff.1 h1).1
  at' b x hx := by
    unfold G0 at hx
    rw [tr_get_set _ _ _ _ _ (by omega)] at hx
    split at hx
    · rename_i e; subst e; cases hx; exact ⟨by show 4 < 5; omega, blk_de hs h⟩
    rw [tr_get_set _ _ _ _ _ (by omega)] at hx
    split at hx
    · rename_i e; subst e; cases hx; exact ⟨by show 2 < 5; omega, blk_acc hs h⟩
    rw [tr_get_set _ _ _ _ _ (by omega)] at hx
    split at hx
    · rename_i e; subst e; cases hx; exact ⟨by show 1 < 5; omega, blk_first hs h⟩
    rw [tr_get_set _ _ _ _ _ (by omega)] at hx
    split at hx
    · rename_i e; subst e; cases hx; exact ⟨by show 0 < 5; omega, blk_starts hs h⟩
    rw [tr_get_e] at hx
    cases hx
end Go.Proofs.YtndpcphmndfajaaGreatDoor
