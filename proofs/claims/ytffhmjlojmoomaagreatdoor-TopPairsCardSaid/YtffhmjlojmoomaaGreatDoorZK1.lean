/- The texts that stand in the program's functions, taken out of their code. -/
import Derived.Test.YtffhmjlojmoomaaGreatDoorProg
import Derived.Test.YtffhmjlojmoomaaGreatDoorZH1

namespace Go.Proofs.YtffhmjlojmoomaaGreatDoor
open Go
set_option linter.unusedVariables false
set_option linter.unusedSimpArgs false

def codeOps : Code → List Oper
  | .region _ ops _ => ops.toList
  | .seq a b => codeOps a ++ codeOps b
  | .cond _ a b => codeOps a ++ codeOps b
  | .block _ c => codeOps c
  | .loop c => codeOps c
  | .scope c => codeOps c
  | _ => []
def opTexts (o : Oper) : List (List UInt8) := o.op.operands.toList.filterMap (fun x => match x with
  | .const (.string s) => if s.data.toList.length = 0 then none else some s.data.toList
  | _ => none)
def textsOf (f : Func) : List (List UInt8) := match f.body with
  | some c => (codeOps c).flatMap opTexts
  | none => []
/-- the program's lists: KOI8-R's signs, those of CP866, the rows of the Korean charset and which syllables are in them, the rows of Big5 -/
structure Cst where
  koi : List Nat
  cpB : List Nat
  cpF : List Nat
  wA1 : List Nat
  wA2 : List Nat
  wA6 : List Nat
  mem : List UInt8
  b5 : List (List Nat)
structure CstOk (C : Cst) : Prop where
  koiE : (textsOf Tryz.f43).getD 0 [] = listT C.koi
  koiL : C.koi.length = 128 ∧ ∀ n ∈ C.koi, 128 ≤ n ∧ n < 55296
  cpBE : (textsOf Tryz.f45).getD 0 [] = listT C.cpB
  cpBL : C.cpB.length = 48 ∧ ∀ n ∈ C.cpB, 128 ≤ n ∧ n < 55296
  cpFE : (textsOf Tryz.f45).getD 1 [] = listT C.cpF
  cpFL : C.cpF.length = 16 ∧ ∀ n ∈ C.cpF, 128 ≤ n ∧ n < 55296
  wE : textsOf Tryz.f104 = [listT C.wA1, listT C.wA2, listT C.wA6]
  wL : C.wA1.length = 94 ∧ C.wA2.length = 71 ∧ C.wA6.length = 68 ∧ ∀ n ∈ C.wA1 ++ C.wA2 ++ C.wA6, 128 ≤ n ∧ n < 65536 ∧ (n < 55296 ∨ 57344 ≤ n)
  memE : textsOf Tryz.f123 = [C.mem]
  memL : C.mem.length = 2793 ∧ ∀ c ∈ C.mem, (48 ≤ c.toNat ∧ c.toNat < 58) ∨ (97 ≤ c.toNat ∧ c.toNat < 103)
  b5E : textsOf Tryz.f63 = C.b5.map listT
  b5L : C.b5.map List.length = [12, 1, 16, 10, 2, 1, 3, 157, 94, 157, 157]
  b5M : ∀ l ∈ C.b5, ∀ n ∈ l, 128 ≤ n ∧ n < 65536 ∧ (n < 55296 ∨ 57344 ≤ n)
set_option maxRecDepth 100000 in
theorem cst_ex : ∃ C : Cst, CstOk C :=
  ⟨⟨unT ((textsOf Tryz.f43).getD 0 []), unT ((textsOf Tryz.f45).getD 0 []), unT ((textsOf Tryz.f45).getD 1 []), unT ((textsOf Tryz.f104).getD 0 []), unT ((textsOf Tryz.f104).getD 1 []), unT ((textsOf Tryz.f104).getD 2 []), (textsOf Tryz.f123).getD 0 [], (textsOf Tryz.f63).map unT⟩,
   ⟨by decide +kernel, by decide +kernel, by decide +kernel, by decide +kernel, by decide +kernel, by decide +kernel, by decide +kernel, by decide +kernel, by decide +kernel, by decide +kernel, by decide +kernel, by decide +kernel, by decide +kernel⟩⟩
end Go.Proofs.YtffhmjlojmoomaaGreatDoor
