/- Maps that a call makes: what two bytes lead to, what a sign leads to. -/
import Derived.Test.YtffhmjlojmoomaaGreatDoorZM1
import Derived.DeepKeys4

namespace Go.Proofs.YtffhmjlojmoomaaGreatDoor
open Go.RowKit Go.Maps
set_option linter.unusedVariables false
set_option linter.unusedSimpArgs false

def kv2 (k : UInt8 × UInt8) : Value := .agg #[.int .u8 k.1.toNat, .int .u8 k.2.toNat]
theorem kv2_inj (a b : UInt8 × UInt8) (h : kv2 a = kv2 b) : a = b := by
  unfold kv2 at h
  injection h with h
  have h1 := congrArg Array.toList h
  simp only [List.cons.injEq, and_true, Value.int.injEq, true_and] at h1
  obtain ⟨h2, h3⟩ := h1
  have e1 : a.1 = b.1 := UInt8.toNat_inj.1 (by omega)
  have e2 : a.2 = b.2 := UInt8.toNat_inj.1 (by omega)
  exact Prod.ext e1 e2
theorem wf_byte (a : UInt8) : (Lit.int .u8 (a.toNat : Int)).wf = true := WalkArith.wf_u8 (by have := UInt8.toNat_lt a; omega)
def toldR (v : Value) : Option (DataW Unit × List MemPlace) := match v with
  | .agg ⟨[.string b]⟩ => some (.lit (.string b.data.toList), [])
  | _ => none
theorem toldR_inv (v : Value) (x : List UInt8) (ps : List MemPlace) (h : toldR v = some (.lit (.string x), ps)) : v = .agg #[.string ⟨x.toArray⟩] := by
  unfold toldR at h
  split at h
  · rename_i b
    injection h with h
    injection h with h1 h2
    injection h1 with h1
    injection h1 with h1
    subst h1
    cases b
    simp
  · cases h
/-- map[[2]byte]told -/
def M2B {P : Program} (mT kT eT : TypeId) (ht : P.underlying mT = some (.map kT eT)) (law : Keyed P kT) (hkey : ∀ k, (keyOf P kT (kv2 k)).isSome = true) (hz : ∀ w, (zeroValue eT).run P w = .ok (.agg #[.string ⟨#[]⟩]) w) : MK P (UInt8 × UInt8) (List UInt8) where
  mT := mT
  kT := kT
  eT := eT
  law := law
  ht := ht
  R := toldR
  kv := kv2
  kl := fun k => (keyOf P kT (kv2 k)).getD (.bool true)
  ok := fun _ => True
  hkey := fun k _ => by
    have := hkey k
    rcases h : keyOf P kT (kv2 k) with _ | l
    · rw [h] at this; cases this
    · rfl
  kinj := kv2_inj
  vl := fun s => .agg #[.string ⟨s.toArray⟩]
  rd := fun s => .lit (.string s)
  vok := fun _ => True
  hR := fun s _ => rfl
  inv := fun v x ps h => toldR_inv v x ps h
  z := []
  zok := trivial
  hz := hz
/-- map[rune]told -/
def MRT {P : Program} (mT kT eT : TypeId) (ht : P.underlying mT = some (.map kT eT)) (hk : P.underlying kT = some (.int .i32)) (hz : ∀ w, (zeroValue eT).run P w = .ok (.agg #[.string ⟨#[]⟩]) w) : MK P Nat (List UInt8) where
  mT := mT
  kT := kT
  eT := eT
  law := int_keyed hk
  ht := ht
  R := toldR
  kv := fun p => .int .i32 (p : Int)
  kl := fun p => .int .i32 (p : Int)
  ok := fun p => p ≤ 1114111
  hkey := fun p hp => keyOf_int_mk hk (runes_wf p hp)
  kinj := fun a b h => by injection h with _ h; omega
  vl := fun s => .agg #[.string ⟨s.toArray⟩]
  rd := fun s => .lit (.string s)
  vok := fun _ => True
  hR := fun s _ => rfl
  inv := fun v x ps h => toldR_inv v x ps h
  z := []
  zok := trivial
  hz := hz
theorem key2_some (k : UInt8 × UInt8) : (keyOf Tryz.prog 91 (kv2 k)).isSome = true := by
  have hT : Tryz.prog.keyType 91 = true := by kernel_rfl
  have hc : Tryz.prog.cellsOf 91 = 2 := by kernel_rfl
  have hc1 : Tryz.prog.cellsOf 5 = 1 := by kernel_rfl
  have hs : 0 < Tryz.prog.types.size := of_decide_eq_true (by kernel_rfl)
  obtain ⟨d, hd⟩ : ∃ d, Tryz.prog.types.size + 1 = d + 1 + 1 := ⟨Tryz.prog.types.size - 1, by omega⟩
  have wa := wf_byte k.1
  have wb := wf_byte k.2
  have hf : (kv2 k).formed Tryz.prog 91 = true := by
    unfold kv2
    simp [Value.formed, Tryz.underlying91, hc]
  unfold keyOf
  rw [Tryz.underlying91]
  simp only [hT, hf, Bool.and_self, if_true, Option.isSome_map]
  rw [hd]
  have hcs : (kv2 k).cells.toList = [.int .u8 k.1.toNat, .int .u8 k.2.toNat] := rfl
  rw [hcs]
  unfold Program.keyLits
  rw [Tryz.underlying91]
  simp only [List.length_cons, List.length_nil, hc, hc1, if_true]
  have hr : List.range 2 = [0, 1] := rfl
  have k1 : Tryz.prog.keyLits (d + 1) 5 [.int .u8 k.1.toNat] = some [.int .u8 k.1.toNat] := by
    unfold Program.keyLits
    rw [Tryz.underlying5]
    simp [wa]
  have k2 : Tryz.prog.keyLits (d + 1) 5 [.int .u8 k.2.toNat] = some [.int .u8 k.2.toNat] := by
    unfold Program.keyLits
    rw [Tryz.underlying5]
    simp [wb]
  simp [hr, k1, k2]
theorem law2 : Keyed Tryz.prog 91 := Keyed.of_law (deep_law_laid (by kernel_rfl) (m := 2) (by omega) (of_decide_eq_true (by kernel_rfl)) (by kernel_rfl) (by kernel_rfl))
end Go.Proofs.YtffhmjlojmoomaaGreatDoor
