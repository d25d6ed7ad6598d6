/- The evaluator once more, by recursors alone: the kernel runs it faster. | The evaluator with facts: calls whose answers are told already. -/
import Derived.Test.YtndpcphmndfajaaGreatDoorZEvA
import Derived.Test.YtndpcphmndfajaaGreatDoorZEv0

namespace Go.Proofs.YtndpcphmndfajaaGreatDoor
set_option linter.unusedVariables false

abbrev OR := Option (SV × St)
noncomputable def opdF (x : Operand) (S : St) : Option SV :=
  @Operand.rec (fun _ => St → Option SV) (fun t S => getF S.T t) (fun v _ => @Option.rec SV (fun _ => Option SV) none (fun v => some v) (ofV v)) (fun g S => @Bool.rec (fun _ => Option SV) none (some (.p g 0)) (Nat.ble (Nat.succ g) S.ng)) (fun f _ => some (.f f [] [])) x S
theorem opdF_eq (x : Operand) (S : St) : opdF x S = S.opd x := by
  cases x with
  | tmp t => exact getF_eq _ _
  | const v => show @Option.rec SV (fun _ => Option SV) none (fun v => some v) (ofV v) = ofV v; cases ofV v <;> rfl
  | global g => show @Bool.rec (fun _ => Option SV) none (some (.p g 0)) (Nat.blt g S.ng) = _; simp only [St.opd]; cases Nat.blt g S.ng <;> rfl
  | func f => rfl

noncomputable def opdsF (l : List Operand) (S : St) : Option (List SV) := @List.rec Operand (fun _ => Option (List SV)) (some []) (fun x _ ih => @Option.rec SV (fun _ => Option (List SV)) none (fun v => @Option.rec (List SV) (fun _ => Option (List SV)) none (fun vs => some (v :: vs)) ih) (opdF x S)) l
theorem opdsF_eq (S : St) : ∀ l, opdsF l S = S.opds l
  | [] => rfl
  | x :: l => by
    show @Option.rec SV (fun _ => Option (List SV)) none (fun v => @Option.rec (List SV) (fun _ => Option (List SV)) none (fun vs => some (v :: vs)) (opdsF l S)) (opdF x S) = _
    rw [opdF_eq, opdsF_eq S l]
    simp only [St.opds]
    cases S.opd x with
    | none => rfl
    | some v => cases S.opds l <;> rfl
noncomputable def opdQ (x : Option Operand) (S : St) : Option (Option SV) := @Option.rec Operand (fun _ => Option (Option SV)) (some none) (fun x => @Option.rec SV (fun _ => Option (Option SV)) none (fun v => some (some v)) (opdF x S)) x
theorem opdQ_eq (x : Option Operand) (S : St) : opdQ x S = S.opd? x := by
  cases x with
  | none => rfl
  | some x =>
    show @Option.rec SV (fun _ => Option (Option SV)) none (fun v => some (some v)) (opdF x S) = _
    rw [opdF_eq]
    simp only [St.opd?]
    cases S.opd x <;> rfl
noncomputable def partsF (l : List (Nat × Operand)) (S : St) : Option (List (Nat × SV)) := @List.rec (Nat × Operand) (fun _ => Option (List (Nat × SV))) (some []) (fun q _ ih => @Option.rec SV (fun _ => Option (List (Nat × SV))) none (fun v => @Option.rec (List (Nat × SV)) (fun _ => Option (List (Nat × SV))) none (fun vs => some ((q.1, v) :: vs)) ih) (opdF q.2 S)) l
theorem partsF_eq (S : St) : ∀ l, partsF l S = evParts S l
  | [] => rfl
  | (i, x) :: l => by
    show @Option.rec SV (fun _ => Option (List (Nat × SV))) none (fun v => @Option.rec (List (Nat × SV)) (fun _ => Option (List (Nat × SV))) none (fun vs => some ((i, v) :: vs)) (partsF l S)) (opdF x S) = _
    rw [opdF_eq, partsF_eq S l]
    simp only [evParts]
    cases S.opd x with
    | none => rfl
    | some v => cases evParts S l <;> rfl

/-- With an operand's value. -/
noncomputable def withO (o : Option SV) (k : SV → OR) : OR := @Option.rec SV (fun _ => OR) none k o
noncomputable def moveF (x : Operand) (E : Env) (C : CallF) (S : St) : OR := @Option.rec SV (fun _ => OR) none (fun v => some (v, S)) (opdF x S)
theorem moveF_eq (x : Operand) (E : Env) (C : CallF) (S : St) : moveF x E C S = pairS (S.opd x) S := by
  unfold moveF; rw [opdF_eq]; cases S.opd x <;> rfl
noncomputable def forceN (n : Nat) (k : Nat → OR) : OR := @Nat.rec (fun _ => OR) (k 0) (fun m _ => k (Nat.succ m)) n
theorem forceN_eq (n : Nat) (k : Nat → OR) : forceN n k = k n := by cases n <;> rfl
/-- A number that is worked out before it is laid down. -/
noncomputable def strV : SV → St → OR :=
  @SV.rec (fun _ => St → OR) (fun _ => PUnit)
    (fun  S => some (.ju, S))
    (fun  S => some (.und, S))
    (fun x S => @Bool.rec (fun _ => St → OR) (fun S => some (.b false, S)) (fun S => some (.b true, S)) x S)
    (fun k n S => @Int.rec (fun _ => IntKind → St → OR) (fun m k S => forceN m fun m => some (.i k (.ofNat m), S)) (fun m k S => forceN m fun m => some (.i k (.negSucc m), S)) n k S)
    (fun l S => some (.s l, S))
    (fun  S => some (.np, S))
    (fun b o S => some (.p b o, S))
    (fun  S => some (.ns, S))
    (fun b o n c S => some (.sl b o n c, S))
    (fun c S => some (.sz c, S))
    (fun  S => some (.nm, S))
    (fun b S => some (.m b, S))
    (fun  S => some (.nf, S))
    (fun f x y _ _ S => some (.f f x y, S))
    (fun l _ S => some (.agg l, S))
    (fun l _ S => some (.tup l, S)) PUnit.unit (fun _ _ _ _ => PUnit.unit)
noncomputable def strictV (r : Option SV) (S : St) : OR := @Option.rec SV (fun _ => OR) none (fun v => strV v S) r
theorem strictV_eq (r : Option SV) (S : St) : strictV r S = pairS r S := by
  cases r with
  | none => rfl
  | some v =>
    cases v <;> try rfl
    case b x => cases x <;> rfl
    case i k n =>
      cases n with
      | ofNat m => exact forceN_eq m (fun m => some (.i k (.ofNat m), S))
      | negSucc m => exact forceN_eq m (fun m => some (.i k (.negSucc m), S))
noncomputable def binF (op : BinOp) (t : TypeId) (x y : Operand) (E : Env) (C : CallF) (S : St) : OR :=
  @Option.rec SV (fun _ => OR) none (fun a => @Option.rec SV (fun _ => OR) none (fun b => strictV (evBinF a b E.P op t) S) (opdF y S)) (opdF x S)
theorem binF_eq (op : BinOp) (t : TypeId) (x y : Operand) (E : Env) (C : CallF) (S : St) : binF op t x y E C S = binO (S.opd x) (S.opd y) E.P op t S := by
  unfold binF; rw [opdF_eq, opdF_eq]
  cases S.opd x with
  | none => rfl
  | some a => cases S.opd y with
    | none => rfl
    | some b => show strictV (evBinF a b E.P op t) S = _; rw [evBinF_eq]; exact strictV_eq _ _

noncomputable def w1 (o : Option SV) (k : SV → OR) : OR := @Option.rec SV (fun _ => OR) none k o
noncomputable def loadOF (a : Option SV) (P : Program) (S : St) (t : TypeId) : OR := w1 a fun a => evLoadF a P S t
theorem loadOF_eq (a : Option SV) (P : Program) (S : St) (t : TypeId) : loadOF a P S t = loadO a P S t := by
  cases a with
  | none => rfl
  | some a => exact evLoadF_eq _ _ _ _
noncomputable def undF (r : Option St) : OR := @Option.rec St (fun _ => OR) none (fun S => some (.und, S)) r
theorem undF_eq (r : Option St) : undF r = undS r := by cases r <;> rfl
noncomputable def storeOF (a x : Option SV) (P : Program) (ng : Nat) (S : St) (t : TypeId) : OR := w1 a fun a => w1 x fun v => undF (evStoreF a P ng S t v)
theorem storeOF_eq (a x : Option SV) (P : Program) (ng : Nat) (S : St) (t : TypeId) : storeOF a x P ng S t = storeO a x P ng S t := by
  cases a with
  | none => rfl
  | some a =>
    cases x with
    | none => rfl
    | some x => show undF (evStoreF a P ng S t x) = _; rw [undF_eq, evStoreF_eq]; rfl
noncomputable def convOF (a : Option SV) (P : Program) (S : St) (src dst : TypeId) : OR := w1 a fun a => convF P S src dst a
theorem convOF_eq (a : Option SV) (P : Program) (S : St) (src dst : TypeId) : convOF a P S src dst = convO a P S src dst := by
  cases a with
  | none => rfl
  | some a => exact convF_eq _ _ _ _ _
noncomputable def sliceOF (a : Option SV) (lo hi mx : Option (Option SV)) (P : Program) (t : TypeId) (S : St) : OR :=
  w1 a fun a => @Option.rec (Option SV) (fun _ => OR) none (fun lo => @Option.rec (Option SV) (fun _ => OR) none (fun hi => @Option.rec (Option SV) (fun _ => OR) none (fun mx => w1 (evSliceF P t a lo hi mx) fun v => some (v, S)) mx) hi) lo
theorem sliceOF_eq (a : Option SV) (lo hi mx : Option (Option SV)) (P : Program) (t : TypeId) (S : St) : sliceOF a lo hi mx P t S = sliceO a lo hi mx P t S := by
  cases a with
  | none => rfl
  | some a =>
    cases lo with
    | none => rfl
    | some lo =>
      cases hi with
      | none => rfl
      | some hi =>
        cases mx with
        | none => rfl
        | some mx =>
          show w1 (evSliceF P t a lo hi mx) _ = _
          rw [evSliceF_eq]
          simp only [sliceO]
          cases evSlice P t a lo hi mx <;> rfl
noncomputable def pairF (a : Option SV) (S : St) : OR := @Option.rec SV (fun _ => OR) none (fun v => some (v, S)) a
theorem pairF_eq (a : Option SV) (S : St) : pairF a S = pairS a S := by cases a <;> rfl
noncomputable def fieldOF (a : Option SV) (P : Program) (t : TypeId) (k : Nat) (S : St) : OR := w1 a fun a => pairF (evFieldF (P.underlying t) a P k) S
theorem fieldOF_eq (a : Option SV) (P : Program) (t : TypeId) (k : Nat) (S : St) : fieldOF a P t k S = fieldO a P t k S := by
  cases a with
  | none => rfl
  | some a => show pairF _ S = _; rw [pairF_eq, evFieldF_eq]; rfl
noncomputable def indexOF (a i : Option SV) (P : Program) (t : TypeId) (S : St) : OR := w1 a fun a => w1 i fun i => pairF (evIndexF i a P t) S
theorem indexOF_eq (a i : Option SV) (P : Program) (t : TypeId) (S : St) : indexOF a i P t S = indexO a i P t S := by
  cases a with
  | none => rfl
  | some a =>
    cases i with
    | none => rfl
    | some i => show pairF _ S = _; rw [pairF_eq, evIndexF_eq]; rfl
noncomputable def lookOF (a k : Option SV) (P : Program) (t : TypeId) (ok : Bool) (S : St) : OR := w1 a fun a => w1 k fun k => evLookupF P S t a k ok
theorem lookOF_eq (a k : Option SV) (P : Program) (t : TypeId) (ok : Bool) (S : St) : lookOF a k P t ok S = lookO a k P t ok S := by
  cases a with
  | none => rfl
  | some a =>
    cases k with
    | none => rfl
    | some k => exact evLookupF_eq _ _ _ _ _ _
noncomputable def mapOF (a k v : Option SV) (P : Program) (ng : Nat) (t : TypeId) (S : St) : OR := w1 a fun a => w1 k fun k => w1 v fun v => undF (evMapSetF P ng S t a k v)
theorem mapOF_eq (a k v : Option SV) (P : Program) (ng : Nat) (t : TypeId) (S : St) : mapOF a k v P ng t S = mapO a k v P ng t S := by
  cases a with
  | none => rfl
  | some a =>
    cases k with
    | none => rfl
    | some k =>
      cases v with
      | none => rfl
      | some v => show undF _ = _; rw [undF_eq, evMapSetF_eq]; rfl
noncomputable def nextOF (a : Option SV) (ng : Nat) (S : St) : OR := w1 a fun a => evNextF ng S a
theorem nextOF_eq (a : Option SV) (ng : Nat) (S : St) : nextOF a ng S = nextO a ng S := by
  cases a with
  | none => rfl
  | some a => exact evNextF_eq _ _ _
noncomputable def builtinF (bi : Builtin) (args : Option (List SV)) (ts : List TypeId) (E : Env) (S : St) : OR :=
  match bi, args, ts with
  | .len, some [x], t :: _ => evLenF E.P S t x
  | .append, some [x, y], ts => evAppendF E.P E.ng S ts x y
  | .copy, some [x, y], t :: _ => evCopyF E.P E.ng S t x y
  | bi, args, ts => builtinO bi args ts E S
theorem builtinF_eq (bi : Builtin) (args : Option (List SV)) (ts : List TypeId) (E : Env) (S : St) : builtinF bi args ts E S = builtinO bi args ts E S := by
  unfold builtinF
  split
  · exact evLenF_eq _ _ _ _
  · exact evAppendF_eq _ _ _ _ _ _
  · exact evCopyF_eq _ _ _ _ _ _
  · rfl
noncomputable def callOF (f : Option SV) (args : Option (List SV)) (C : CallF) (S : St) : OR :=
  w1 f fun f => @Option.rec (List SV) (fun _ => OR) none (fun args => @SV.casesOn (fun _ => OR) f none none (fun _ => none) (fun _ _ => none) (fun _ => none) none (fun _ _ => none) none (fun _ _ _ _ => none) (fun _ => none) none (fun _ => none) none (fun f a b => C f (appR a (appR args b)) S) (fun _ => none) (fun _ => none)) args
theorem callOF_eq (f : Option SV) (args : Option (List SV)) (C : CallF) (S : St) : callOF f args C S = callO f args C S := by
  cases f with
  | none => rfl
  | some f =>
    cases args with
    | none => cases f <;> rfl
    | some args =>
      cases f <;> try rfl
      case f f a b => show C f (appR a (appR args b)) S = _; rw [appR_eq, appR_eq]; rfl
noncomputable def calleeF : Callee → Call → Env → CallF → St → OR
  | .builtin bi, c, E, _, S => builtinF bi (opdsF c.args.toList S) c.argTypes.toList E S
  | .value f, c, _, C, S => callOF (opdF f S) (opdsF c.args.toList S) C S
  | x, c, E, C, S => evCallee x c E C S
theorem calleeF_eq (x : Callee) (c : Call) (E : Env) (C : CallF) (S : St) : calleeF x c E C S = evCallee x c E C S := by
  cases x <;> try rfl
  case builtin bi => show builtinF bi (opdsF _ S) _ E S = _; rw [opdsF_eq]; exact builtinF_eq _ _ _ _ _
  case value f => show callOF (opdF f S) (opdsF _ S) C S = _; rw [opdF_eq, opdsF_eq, callOF_eq]; rfl

noncomputable def evOpF : Op → Env → CallF → St → OR :=
  @Op.rec (fun _ => Env → CallF → St → OR)
    (fun x => moveF x) (fun x => moveF x)
    (fun c a b E C S => @Option.rec SV (fun _ => OR) none (fun v => @SV.casesOn (fun _ => OR) v none none (fun x => @Bool.rec (fun _ => OR) (moveF b E C S) (moveF a E C S) x) (fun _ _ => none) (fun _ => none) none (fun _ _ => none) none (fun _ _ _ _ => none) (fun _ => none) none (fun _ => none) none (fun _ _ _ => none) (fun _ => none) (fun _ => none)) (opdF c S))
    (fun t E _ S => allocF (zeroT E.P t) S t)
    (fun t x _ _ S => boxF (opdF x S) S t)
    (fun t ps E _ S => evBuild (partsF ps.toList S) (zeroT E.P t) E.P t S)
    (fun t len ps E _ S => bsF (partsF ps.toList S) (elemT E.P t) E.P len S)
    (fun _ _ _ _ _ _ _ => none)
    (fun t a E _ S => loadOF (opdF a S) E.P S t)
    (fun t a x E _ S => storeOF (opdF a S) (opdF x S) E.P E.ng S t)
    (fun _ _ _ _ => none) (fun _ _ _ _ => none)
    (fun x _ _ S => nilO (opdF x S) S)
    (fun op t x y _ => binF op t x y)
    (fun op _ x _ _ S => unO (opdF x S) op S)
    (fun src dst x E _ S => convOF (opdF x S) E.P S src dst)
    (fun _ _ _ _ _ => none) (fun _ _ _ _ _ => none)
    (fun f fi ca _ _ S => funcO (opdsF fi.toList S) (opdsF ca.toList S) f S)
    (fun _ r _ _ S => @Option.rec Operand (fun _ => OR) (some (.m S.c, S.new (.map [] 0))) (fun _ => none) r)
    (fun _ _ _ _ _ => none)
    (fun t l c E _ S => msO (opdF l S) (opdF c S) (elemT E.P t) E.P S)
    (fun t x lo hi mx E _ S => sliceOF (opdF x S) (opdQ lo S) (opdQ hi S) (opdQ mx S) E.P t S)
    (fun t x k E _ S => fieldAO (opdF x S) E.P t k S)
    (fun t x k E _ S => fieldOF (opdF x S) E.P t k S)
    (fun t x y E _ S => indexAO (opdF x S) (opdF y S) E.P t S)
    (fun t x y E _ S => indexOF (opdF x S) (opdF y S) E.P t S)
    (fun t x y ok E _ S => lookOF (opdF x S) (opdF y S) E.P t ok S)
    (fun t x y z E _ S => mapOF (opdF x S) (opdF y S) (opdF z S) E.P E.ng t S)
    (fun _ _ _ _ _ _ => none) (fun _ _ _ _ _ _ _ => none)
    (fun t x E _ S => rangeO (opdF x S) (E.P.underlying t) S)
    (fun x b E _ S => @Bool.rec (fun _ => OR) none (nextOF (opdF x S) E.ng S) b)
    (fun _ _ _ _ => none) (fun _ _ _ _ _ _ _ => none)
    (fun x k _ _ S => extrO (opdF x S) k S)
    (fun c E C S => calleeF c.callee c E C S)
    (fun _ _ _ _ => none) (fun _ _ _ _ => none) (fun _ _ _ _ => none) (fun _ _ _ _ _ => none) (fun _ _ _ _ _ _ => none) (fun _ _ _ _ _ => none)
theorem evOpF_eq (o : Op) (E : Env) (C : CallF) (S : St) : evOpF o E C S = evOp o E C S := by
  cases o
  case move x => exact moveF_eq x E C S
  case assign x => exact moveF_eq x E C S
  case pick c a b =>
    show @Option.rec SV (fun _ => OR) none _ (opdF c S) = _
    rw [opdF_eq]
    simp only [evOp]
    cases S.opd c with
    | none => rfl
    | some v =>
      cases v <;> try rfl
      case b x => cases x
                  · exact moveF_eq b E C S
                  · exact moveF_eq a E C S
  case binOp op t x y yt => exact binF_eq op t x y E C S
  case makeMap t r => cases r <;> rfl
  case next x b => cases b
                   · rfl
                   · show nextOF (opdF x S) E.ng S = _; rw [opdF_eq, nextOF_eq]; rfl
  case box t x => show boxF (opdF x S) S t = _; rw [opdF_eq, boxF_eq]; rfl
  case alloc t => exact allocF_eq _ _ _
  case buildSlice t len ps => show bsF (partsF ps.toList S) _ _ _ _ = _; rw [partsF_eq]; exact bsF_eq _ _ _ _ _
  case build t ps => show evBuild (partsF ps.toList S) _ _ _ _ = _; rw [partsF_eq]; rfl
  case makeFunc f fi ca => show funcO (opdsF fi.toList S) (opdsF ca.toList S) f S = _; rw [opdsF_eq, opdsF_eq]; rfl
  case call c => exact calleeF_eq _ _ _ _ _
  case load t a => show loadOF (opdF a S) E.P S t = _; rw [opdF_eq, loadOF_eq]; rfl
  case store t a x => show storeOF (opdF a S) (opdF x S) E.P E.ng S t = _; rw [opdF_eq, opdF_eq, storeOF_eq]; rfl
  case nilCheck x => show nilO (opdF x S) S = _; rw [opdF_eq]; rfl
  case unOp op t x => show unO (opdF x S) op S = _; rw [opdF_eq]; rfl
  case convert s d x => show convOF (opdF x S) E.P S s d = _; rw [opdF_eq, convOF_eq]; rfl
  case makeSlice t l c => show msO (opdF l S) (opdF c S) (elemT E.P t) E.P S = _; rw [opdF_eq, opdF_eq]; rfl
  case slice t x lo hi mx => show sliceOF (opdF x S) _ _ _ E.P t S = _; rw [opdF_eq, opdQ_eq, opdQ_eq, opdQ_eq, sliceOF_eq]; rfl
  case fieldAddr t x k => show fieldAO (opdF x S) E.P t k S = _; rw [opdF_eq]; rfl
  case field t x k => show fieldOF (opdF x S) E.P t k S = _; rw [opdF_eq, fieldOF_eq]; rfl
  case indexAddr t x y => show indexAO (opdF x S) (opdF y S) E.P t S = _; rw [opdF_eq, opdF_eq]; rfl
  case index t x y => show indexOF (opdF x S) (opdF y S) E.P t S = _; rw [opdF_eq, opdF_eq, indexOF_eq]; rfl
  case lookup t x y ok => show lookOF (opdF x S) (opdF y S) E.P t ok S = _; rw [opdF_eq, opdF_eq, lookOF_eq]; rfl
  case mapUpdate t x y z => show mapOF (opdF x S) (opdF y S) (opdF z S) E.P E.ng t S = _; rw [opdF_eq, opdF_eq, opdF_eq, mapOF_eq]; rfl
  case range t x => show rangeO (opdF x S) (E.P.underlying t) S = _; rw [opdF_eq]; rfl
  case extract x k => show extrO (opdF x S) k S = _; rw [opdF_eq]; rfl
  all_goals rfl

noncomputable def wantW : SV → Bool → Option Bool :=
  @SV.rec (fun _ => Bool → Option Bool) (fun _ => PUnit) (fun _ => none)
    (fun  _ => some false)
    (fun b w => some (@Bool.rec (fun _ => Bool) (@Bool.rec (fun _ => Bool) true false w) (@Bool.rec (fun _ => Bool) false true w) b)) (fun _ _ _ => none) (fun _ _ => none) (fun _ => none) (fun _ _ _ => none) (fun _ => none) (fun _ _ _ _ _ => none) (fun _ _ => none) (fun _ => none) (fun _ _ => none) (fun _ => none) (fun _ _ _ _ _ _ => none) (fun _ _ _ => none) (fun _ _ _ => none) PUnit.unit (fun _ _ _ _ => PUnit.unit)
noncomputable def wantF (g : Nat × Bool) (ops : Array Oper) (S : St) : Option Bool :=
  @Option.rec Tmp (fun _ => Option Bool) none (fun t => @Option.rec SV (fun _ => Option Bool) none (fun v => wantW v g.2) (getF S.T t)) ((ops[g.1]?).bind (·.dst))
theorem wantF_eq (g : Nat × Bool) (ops : Array Oper) (S : St) : wantF g ops S = evWant (some g) ops S := by
  obtain ⟨j, want⟩ := g
  unfold wantF evWant
  simp only [getF_eq]
  cases (ops[j]?).bind (·.dst) with
  | none => rfl
  | some t =>
    show @Option.rec SV (fun _ => Option Bool) none _ (S.T.get t) = wantV (S.T.get t) want
    cases S.T.get t with
    | none => rfl
    | some v =>
      cases v <;> try rfl
      case b b => cases b <;> cases want <;> rfl
noncomputable def oneF (o : Oper) (E : Env) (C : CallF) (ops : Array Oper) (S : St) : OR :=
  @Option.rec (Nat × Bool) (fun _ => OR) (evOpF o.op E C S) (fun g => @Option.rec Bool (fun _ => OR) none (fun b => @Bool.rec (fun _ => OR) (some (.und, S)) (evOpF o.op E C S) b) (wantF g ops S)) o.guard
theorem oneF_eq (o : Oper) (E : Env) (C : CallF) (ops : Array Oper) (S : St) : oneF o E C ops S = evOne E C ops S o := by
  unfold oneF evOne
  cases o.guard with
  | none => exact evOpF_eq _ _ _ _
  | some g =>
    show @Option.rec Bool (fun _ => OR) none _ (wantF g ops S) = _
    rw [wantF_eq]
    cases evWant (some g) ops S with
    | none => rfl
    | some b => cases b
                · rfl
                · exact evOpF_eq _ _ _ _
abbrev OS := Option St
noncomputable def putF (d : Option Tmp) (v : SV) (S : St) (k : St → OS) : OS :=
  @Option.rec Tmp (fun _ => OS) (k S) (fun t => @St.rec (fun _ => OS) (fun T nt H c r w ng => @Bool.rec (fun _ => OS) none (k ⟨setF T t (some v), nt, H, c, r, w, ng⟩) (Nat.ble (Nat.succ t) nt)) S) d
theorem putF_eq (d : Option Tmp) (v : SV) (S : St) (k : St → OS) : putF d v S k = contS (S.put d v) k := by
  cases d with
  | none => rfl
  | some t =>
    show @Bool.rec (fun _ => OS) none (k ⟨setF S.T t (some v), S.nt, S.H, S.c, S.r, S.w, S.ng⟩) (Nat.blt t S.nt) = _
    simp only [St.put]
    rw [setF_eq]
    cases Nat.blt t S.nt <;> rfl
noncomputable def evListF : List Oper → Env → CallF → Array Oper → St → OS :=
  @List.rec Oper (fun _ => Env → CallF → Array Oper → St → OS) (fun _ _ _ S => some S)
    (fun o _ ih E C ops S => @Option.rec (SV × St) (fun _ => OS) none (fun q => @Prod.rec SV St (fun _ => OS) (fun v S => putF o.dst v S (ih E C ops)) q) (oneF o E C ops S))
theorem evListF_eq : ∀ (l : List Oper) (E : Env) (C : CallF) (ops : Array Oper) (S : St), evListF l E C ops S = evList l E C ops S
  | [], _, _, _, _ => rfl
  | o :: l, E, C, ops, S => by
    show @Option.rec (SV × St) (fun _ => OS) none (fun q => @Prod.rec SV St (fun _ => OS) (fun v S => putF o.dst v S (evListF l E C ops)) q) (oneF o E C ops S) = _
    rw [oneF_eq]
    simp only [evList]
    have e : evListF l E C ops = evList l E C ops := funext fun S => evListF_eq l E C ops S
    cases evOne E C ops S o with
    | none => rfl
    | some q =>
      show putF o.dst q.1 q.2 (evListF l E C ops) = _
      rw [putF_eq, e]
      rfl
/-- The marks against the earlier ones, the last one first. -/
noncomputable def memR (m : Nat) (t : Tr) : List Tr → Nat → Bool :=
  @List.rec Tr (fun _ => Nat → Bool) (fun _ => true)
    (fun u _ ih k => @Bool.rec (fun _ => Bool) (@Bool.rec (fun _ => Bool) false (ih (Nat.pred k)) (Nat.testBit m (Nat.pred k)))
      (@Bool.rec (fun _ => Bool) (@Bool.rec (fun _ => Bool) false (ih (Nat.pred k)) (Nat.testBit m (Nat.pred k))) (ih (Nat.pred k)) (Nat.beq (Nat.land t.ww u.rr) 0)) (Nat.beq (Nat.land u.ww t.rr) 0))
theorem memOk_app (m : Nat) (t u : Tr) : ∀ (l : List Tr) (i : Nat), memOk m t i (l ++ [u]) = (memOk m t i l && (Nat.testBit m (i + l.length) || (Nat.beq (Nat.land u.ww t.rr) 0 && Nat.beq (Nat.land t.ww u.rr) 0)))
  | [], i => by simp [memOk]
  | v :: l, i => by
    simp only [List.cons_append, memOk, memOk_app m t u l (i + 1), List.length_cons]
    rw [show i + 1 + l.length = i + (l.length + 1) by omega, Bool.and_assoc]
theorem memR_eq (m : Nat) (t : Tr) : ∀ (l : List Tr), memR m t l l.length = memOk m t 0 l.reverse
  | [] => rfl
  | u :: l => by
    have ih := memR_eq m t l
    rw [List.reverse_cons, memOk_app]
    show @Bool.rec (fun _ => Bool) (@Bool.rec (fun _ => Bool) false (memR m t l (Nat.pred (l.length + 1))) (Nat.testBit m (Nat.pred (l.length + 1))))
      (@Bool.rec (fun _ => Bool) (@Bool.rec (fun _ => Bool) false (memR m t l (Nat.pred (l.length + 1))) (Nat.testBit m (Nat.pred (l.length + 1)))) (memR m t l (Nat.pred (l.length + 1))) (Nat.beq (Nat.land t.ww u.rr) 0)) (Nat.beq (Nat.land u.ww t.rr) 0) = _
    rw [Nat.pred_succ, ih]
    simp only [Nat.zero_add, List.length_reverse]
    cases memOk m t 0 l.reverse <;> cases Nat.testBit m l.length <;> cases Nat.beq (Nat.land t.ww u.rr) 0 <;> cases Nat.beq (Nat.land u.ww t.rr) 0 <;> rfl
/-- An operation that touches no memory is apart from all. -/
noncomputable def memT (m : Nat) (t : Tr) (l : List Tr) (k : Nat) : Bool := @Bool.rec (fun _ => Bool) (memR m t l k) (@Bool.rec (fun _ => Bool) (memR m t l k) true (Nat.beq t.ww 0)) (Nat.beq t.rr 0)
theorem memOk_zero (m : Nat) (t : Tr) (hr : t.rr = 0) (hw : t.ww = 0) : ∀ (l : List Tr) (i : Nat), memOk m t i l = true
  | [], _ => rfl
  | u :: l, i => by
    have e1 : Nat.land u.ww t.rr = 0 := by rw [hr]; show u.ww &&& 0 = 0; simp
    have e2 : Nat.land t.ww u.rr = 0 := by rw [hw]; show 0 &&& u.rr = 0; simp
    simp only [memOk, memOk_zero m t hr hw l, e1, e2]
    simp
theorem memT_eq (m : Nat) (t : Tr) (l : List Tr) : memT m t l l.length = memOk m t 0 l.reverse := by
  unfold memT
  cases h1 : Nat.beq t.rr 0 with
  | false => exact memR_eq m t l
  | true =>
    cases h2 : Nat.beq t.ww 0 with
    | false => exact memR_eq m t l
    | true => exact (memOk_zero m t (Nat.eq_of_beq_eq_true h1) (Nat.eq_of_beq_eq_true h2) _ _).symm
noncomputable def zF (S : St) : St := @St.rec (fun _ => St) (fun T nt H c _ _ ng => ⟨T, nt, H, c, 0, 0, ng⟩) S
theorem zF_eq (S : St) : zF S = { S with r := 0, w := 0 } := by cases S; rfl
noncomputable def trF (S S1 : St) : Tr := @St.rec (fun _ => Tr) (fun _ _ _ c _ _ _ => @St.rec (fun _ => Tr) (fun _ _ _ c1 r1 w1 _ => ⟨Nat.lor r1 w1, Nat.lor w1 (Nat.sub (Nat.shiftLeft 1 c1) (Nat.shiftLeft 1 c))⟩) S1) S
theorem trF_eq (S S1 : St) : trF S S1 = trOf S S1 := by cases S; cases S1; rfl
noncomputable def orF (S S1 : St) : St := @St.rec (fun _ => St) (fun _ _ _ _ r w _ => @St.rec (fun _ => St) (fun T nt H c r1 w1 ng => ⟨T, nt, H, c, Nat.lor r r1, Nat.lor w w1, ng⟩) S1) S
theorem orF_eq (S S1 : St) : orF S S1 = { S1 with r := Nat.lor S.r S1.r, w := Nat.lor S.w S1.w } := by cases S; cases S1; rfl
noncomputable def evDrawF : List Oper → List Nat → Env → CallF → Array Oper → List Tr → Nat → St → OS :=
  @List.rec Oper (fun _ => List Nat → Env → CallF → Array Oper → List Tr → Nat → St → OS) (fun _ _ _ _ _ _ S => some S)
    (fun o _ ih ms => @List.rec Nat (fun _ => Env → CallF → Array Oper → List Tr → Nat → St → OS) (fun _ _ _ _ _ _ => none)
      (fun m ms _ E C ops tr k S => @Option.rec (SV × St) (fun _ => OS) none (fun q => @Prod.rec SV St (fun _ => OS) (fun v S1 => @Bool.rec (fun _ => OS) none
        (putF o.dst v (orF S S1) (ih ms E C ops (trF S S1 :: tr) (Nat.succ k))) (memT m (trF S S1) tr k)) q) (oneF o E C ops (zF S))) ms)
theorem evDrawF_eq : ∀ (l : List Oper) (ms : List Nat) (E : Env) (C : CallF) (ops : Array Oper) (tr : List Tr) (S : St), evDrawF l ms E C ops tr tr.length S = evDraw l ms E C ops tr.reverse S
  | [], _, _, _, _, _, _ => rfl
  | _ :: _, [], _, _, _, _, _ => rfl
  | o :: l, m :: ms, E, C, ops, tr, S => by
    show @Option.rec (SV × St) (fun _ => OS) none (fun q => @Prod.rec SV St (fun _ => OS) (fun v S1 => @Bool.rec (fun _ => OS) none
        (putF o.dst v (orF S S1) (evDrawF l ms E C ops (trF S S1 :: tr) (Nat.succ tr.length))) (memT m (trF S S1) tr tr.length)) q) (oneF o E C ops (zF S)) = _
    rw [oneF_eq, zF_eq]
    simp only [evDraw]
    cases evOne E C ops { S with r := 0, w := 0 } o with
    | none => rfl
    | some q =>
      obtain ⟨v, S1⟩ := q
      show @Bool.rec (fun _ => OS) none (putF o.dst v (orF S S1) (evDrawF l ms E C ops (trF S S1 :: tr) (Nat.succ tr.length))) (memT m (trF S S1) tr tr.length) = _
      rw [trF_eq, orF_eq, memT_eq, putF_eq]
      simp only [drawK]
      cases memOk m (trOf S S1) 0 tr.reverse with
      | false => rfl
      | true =>
        simp only [drawM]
        cases ({ S1 with r := Nat.lor S.r S1.r, w := Nat.lor S.w S1.w } : St).put o.dst v with
        | none => rfl
        | some S2 =>
          show evDrawF l ms E C ops (trOf S S1 :: tr) (Nat.succ tr.length) S2 = evDraw l ms E C ops (tr.reverse ++ [trOf S S1]) S2
          have := evDrawF_eq l ms E C ops (trOf S S1 :: tr) S2
          rw [List.reverse_cons] at this
          exact this

abbrev OX := Option (Ex × St)
noncomputable def condV : SV → CodeF → Code → Code → St → OX :=
  @SV.rec (fun _ => CodeF → Code → Code → St → OX) (fun _ => PUnit) (fun _ _ _ _ => none) (fun _ _ _ _ => none)
    (fun x R a b S => @Bool.rec (fun _ => CodeF → Code → Code → St → OX) (fun R _ b S => R b S) (fun R a _ S => R a S) x R a b S) (fun _ _ _ _ _ _ => none) (fun _ _ _ _ _ => none) (fun _ _ _ _ => none) (fun _ _ _ _ _ _ => none) (fun _ _ _ _ => none) (fun _ _ _ _ _ _ _ _ => none) (fun _ _ _ _ _ => none) (fun _ _ _ _ => none) (fun _ _ _ _ _ => none) (fun _ _ _ _ => none) (fun _ _ _ _ _ _ _ _ _ => none) (fun _ _ _ _ _ _ => none) (fun _ _ _ _ _ _ => none) PUnit.unit (fun _ _ _ _ => PUnit.unit)
noncomputable def condF (v : Option SV) (R : CodeF) (a b : Code) (S : St) : OX := @Option.rec SV (fun _ => OX) none (fun v => condV v R a b S) v
theorem condF_eq (v : Option SV) (R : CodeF) (a b : Code) (S : St) : condF v R a b S = condK v R a b S := by
  cases v with
  | none => rfl
  | some v =>
    cases v <;> try rfl
    case b x => cases x <;> rfl
noncomputable def exitF (c : Bool) (j : Nat) (S : St) : OX := @Bool.rec (fun _ => OX) (some (.exit j, S)) (some (.normal, S)) c
theorem exitF_eq (c : Bool) (j : Nat) (S : St) : exitF c j S = exitK c j S := by cases c <;> rfl
noncomputable def stepF : Code → Env → CallF → CodeF → St → OX :=
  @Code.rec (fun _ => Env → CallF → CodeF → St → OX)
    (fun _ _ _ S => some (.normal, S))
    (fun _ ops d E C _ S => @Bool.rec (fun _ => OX) (@Option.rec St (fun _ => OX) none (fun S => some (.normal, S)) (evListF ops.toList E C ops S))
      (@Bool.rec (fun _ => OX) none (@Option.rec St (fun _ => OX) none (fun S => some (.normal, S)) (evDrawF ops.toList (befs ops.toList []) E C ops [] 0 S)) (regOk ops 0 ops.toList (befs ops.toList []))) d)
    (fun a b _ _ _ _ R S => @Option.rec (Ex × St) (fun _ => OX) none (fun q => @Prod.rec Ex St (fun _ => OX) (fun x S => @Ex.rec (fun _ => OX) (R b S) (fun j => some (.exit j, S)) (some (.ret, S)) x) q) (R a S))
    (fun x a b _ _ _ _ R S => condF (opdF x S) R a b S)
    (fun id a _ _ _ R S => @Option.rec (Ex × St) (fun _ => OX) none (fun q => @Prod.rec Ex St (fun _ => OX) (fun x S => @Ex.rec (fun _ => OX) (some (.normal, S)) (fun j => exitF (Nat.beq j id) j S) (some (.ret, S)) x) q) (R a S))
    (fun a _ _ _ R S => @Option.rec (Ex × St) (fun _ => OX) none (fun q => @Prod.rec Ex St (fun _ => OX) (fun x S => @Ex.rec (fun _ => OX) (R (.loop a) S) (fun j => some (.exit j, S)) (some (.ret, S)) x) q) (R a S))
    (fun _ _ _ _ _ _ _ _ _ _ => none)
    (fun id _ _ _ S => some (.exit id, S))
    (fun _ _ _ _ _ _ => none)
    (fun _ _ _ _ S => some (.normal, S))
    (fun _ _ _ _ _ => none)
    (fun _ _ _ S => some (.ret, S))
    (fun _ _ _ _ _ => none)
theorem stepF_eq (c : Code) (E : Env) (C : CallF) (R : CodeF) (S : St) : stepF c E C R S = stepC c E C R S := by
  have hseq : ∀ (r : OX) (b : Code), @Option.rec (Ex × St) (fun _ => OX) none (fun q => @Prod.rec Ex St (fun _ => OX) (fun x S => @Ex.rec (fun _ => OX) (R b S) (fun j => some (.exit j, S)) (some (.ret, S)) x) q) r = seqK r R b := by
    intro r b
    cases r with
    | none => rfl
    | some q => obtain ⟨e, S⟩ := q; cases e <;> rfl
  cases c with
  | region id ops d =>
    cases d with
    | false =>
      show @Option.rec St (fun _ => OX) none (fun S => some (.normal, S)) (evListF ops.toList E C ops S) = _
      rw [evListF_eq]
      simp only [stepC]
      cases evList ops.toList E C ops S <;> rfl
    | true =>
      show @Bool.rec (fun _ => OX) none (@Option.rec St (fun _ => OX) none (fun S => some (.normal, S)) (evDrawF ops.toList (befs ops.toList []) E C ops [] 0 S)) (regOk ops 0 ops.toList (befs ops.toList [])) = _
      rw [show evDrawF ops.toList (befs ops.toList []) E C ops [] 0 S = evDraw ops.toList (befs ops.toList []) E C ops [] S from evDrawF_eq _ _ _ _ _ [] _]
      simp only [stepC]
      cases regOk ops 0 ops.toList (befs ops.toList []) with
      | false => rfl
      | true => show @Option.rec St (fun _ => OX) none (fun S => some (.normal, S)) (evDraw ops.toList (befs ops.toList []) E C ops [] S) = _
                simp only [drawB]
                cases evDraw ops.toList (befs ops.toList []) E C ops [] S <;> rfl
  | seq a b => exact hseq _ _
  | loop a => exact hseq _ _
  | cond x a b => show condF (opdF x S) R a b S = _; rw [opdF_eq, condF_eq]; rfl
  | block id a =>
    show @Option.rec (Ex × St) (fun _ => OX) none (fun q => @Prod.rec Ex St (fun _ => OX) (fun x S => @Ex.rec (fun _ => OX) (some (.normal, S)) (fun j => exitF (Nat.beq j id) j S) (some (.ret, S)) x) q) (R a S) = blockK (R a S) id
    simp only [exitF_eq]
    cases R a S with
    | none => rfl
    | some q => obtain ⟨e, S⟩ := q; cases e <;> rfl
  | _ => rfl
noncomputable def resQ (P : Program) (l : List ResultVar) : St → Option (List SV × St) :=
  @List.rec ResultVar (fun _ => St → Option (List SV × St)) (fun S => some ([], S))
    (fun x _ ih S => @ResultVar.rec (fun _ => Option (List SV × St))
      (fun t => @Option.rec SV (fun _ => Option (List SV × St)) none (fun v => @Option.rec (List SV × St) (fun _ => Option (List SV × St)) none (fun q => some (v :: q.1, q.2)) (ih S)) (getF S.T t))
      (fun a t => @Option.rec (SV × St) (fun _ => Option (List SV × St)) none (fun p => @Option.rec (List SV × St) (fun _ => Option (List SV × St)) none (fun q => some (p.1 :: q.1, q.2)) (ih p.2)) (loadOF (getF S.T a) P S t)) x) l
theorem resQ_eq (P : Program) : ∀ (l : List ResultVar) (S : St), resQ P l S = evRes l P S
  | [], S => rfl
  | .tmp t :: l, S => by
    show @Option.rec SV (fun _ => Option (List SV × St)) none (fun v => @Option.rec (List SV × St) (fun _ => Option (List SV × St)) none (fun q => some (v :: q.1, q.2)) (resQ P l S)) (getF S.T t) = _
    rw [getF_eq, resQ_eq P l S]
    simp only [evRes]
    cases S.T.get t with
    | none => rfl
    | some v =>
      simp only [pairS, contR]
      cases evRes l P S with
      | none => rfl
      | some q => obtain ⟨a, b⟩ := q; rfl
  | .cell a t :: l, S => by
    show @Option.rec (SV × St) (fun _ => Option (List SV × St)) none (fun p => @Option.rec (List SV × St) (fun _ => Option (List SV × St)) none (fun q => some (p.1 :: q.1, q.2)) (resQ P l p.2)) (loadOF (getF S.T a) P S t) = _
    rw [getF_eq, loadOF_eq]
    simp only [evRes]
    cases loadO (S.T.get a) P S t with
    | none => rfl
    | some p =>
      obtain ⟨v, S1⟩ := p
      show @Option.rec (List SV × St) (fun _ => Option (List SV × St)) none (fun q => some (v :: q.1, q.2)) (resQ P l S1) = _
      rw [resQ_eq P l S1]
      simp only [contR]
      cases evRes l P S1 with
      | none => rfl
      | some q => obtain ⟨a, b⟩ := q; rfl
noncomputable def finF (r : Option (List SV × St)) (S : St) : OR :=
  @Option.rec (List SV × St) (fun _ => OR) none (fun q => @Prod.rec (List SV) St (fun _ => OR) (fun vs S2 => @St.rec (fun _ => OR) (fun T nt _ _ _ _ ng => @St.rec (fun _ => OR) (fun _ _ H c r w _ => some (one? vs, ⟨T, nt, H, c, r, w, ng⟩)) S2) S) q) r
theorem finF_eq (r : Option (List SV × St)) (S : St) : finF r S = finK r S := by
  cases r with
  | none => rfl
  | some q => obtain ⟨a, b⟩ := q; cases b; cases S; rfl
noncomputable def exitRF (r : OX) (E : Env) (rs : Array ResultVar) (S : St) : OR :=
  @Option.rec (Ex × St) (fun _ => OR) none (fun q => @Prod.rec Ex St (fun _ => OR) (fun x S1 => @Ex.rec (fun _ => OR) (finF (resQ E.P rs.toList S1) S) (fun _ => none) (finF (resQ E.P rs.toList S1) S) x) q) r
theorem exitRF_eq (r : OX) (E : Env) (rs : Array ResultVar) (S : St) : exitRF r E rs S = exitR r E rs S := by
  cases r with
  | none => rfl
  | some q =>
    obtain ⟨x, S1⟩ := q
    show @Ex.rec (fun _ => OR) (finF (resQ E.P rs.toList S1) S) (fun _ => none) (finF (resQ E.P rs.toList S1) S) x = _
    rw [finF_eq, resQ_eq]
    cases x <;> rfl
noncomputable def topF (T0 : TR SV) (nt ng : Nat) (S : St) : St := @St.rec (fun _ => St) (fun _ _ H c r w _ => ⟨T0, nt, H, c, r, w, ng⟩) S
theorem topF_eq (T0 : TR SV) (nt ng : Nat) (S : St) : topF T0 nt ng S = ⟨T0, nt, S.H, S.c, S.r, S.w, ng⟩ := by cases S; rfl
noncomputable def funcKF (o : Option Func) (E : Env) (R : CodeF) (args : List SV) (S : St) : OR :=
  @Option.rec Func (fun _ => OR) none (fun fn => @Option.rec Code (fun _ => OR) none (fun c => @Bool.rec (fun _ => OR) none
    (exitRF (R c (topF (initF args 0 .e) fn.ntmps E.ng S)) E fn.results S) (Nat.ble (lenR args) fn.ntmps)) fn.body) o
theorem funcKF_eq (o : Option Func) (E : Env) (R : CodeF) (args : List SV) (S : St) : funcKF o E R args S = funcK o E R args S := by
  cases o with
  | none => rfl
  | some fn =>
    show @Option.rec Code (fun _ => OR) none (fun c => @Bool.rec (fun _ => OR) none
      (exitRF (R c (topF (initF args 0 .e) fn.ntmps E.ng S)) E fn.results S) (Nat.ble (lenR args) fn.ntmps)) fn.body = bodyK fn.body fn E R args S
    cases fn.body with
    | none => rfl
    | some c =>
      show @Bool.rec (fun _ => OR) none (exitRF (R c (topF (initF args 0 .e) fn.ntmps E.ng S)) E fn.results S) (Nat.ble (lenR args) fn.ntmps) = _
      rw [exitRF_eq, topF_eq, lenR_eq, initF_eq]
      simp only [bodyK]
      cases Nat.ble args.length fn.ntmps <;> rfl
noncomputable def knownF (args : List SV) (E : Env) (f : FuncId) (S : St) : OR := @Bool.rec (fun _ => OR) none (known args E f S) (E.hasOver f)
theorem knownF_eq (args : List SV) (E : Env) (f : FuncId) (S : St) : knownF args E f S = known args E f S := by
  unfold knownF
  cases h : E.hasOver f with
  | true => rfl
  | false =>
    show none = known args E f S
    cases args with
    | nil => rfl
    | cons x l => cases x <;> first | rfl | (simp only [known]; rw [h])
noncomputable def evCallF (E : Env) (R : CodeF) (f : FuncId) (args : List SV) (S : St) : OR :=
  @Option.rec SV (fun _ => OR) (@Option.rec (SV × St) (fun _ => OR) (funcKF E.P.funcs[f]? E R args S) (fun r => some r) (knownF args E f S)) (fun v => some (v, S)) (E.pure f args)
theorem evCallF_eq (E : Env) (R : CodeF) (f : FuncId) (args : List SV) (S : St) : evCallF E R f args S = evCall E R f args S := by
  unfold evCallF evCall
  rw [funcKF_eq, knownF_eq]
  cases E.pure f args with
  | some v => rfl
  | none => show @Option.rec (SV × St) (fun _ => OR) (funcK E.P.funcs[f]? E R args S) (fun r => some r) (known args E f S) = knownK (known args E f S) E R f args S
            cases known args E f S <;> rfl
noncomputable def evF (E : Env) (n : Nat) : Code → St → OX :=
  @Nat.rec (fun _ => CodeF) (fun _ _ => none) (fun _ R c S => stepF c E (evCallF E R) R S) n
theorem evF_eq (E : Env) : ∀ n, evF E n = ev E n
  | 0 => rfl
  | n + 1 => by
    show (fun c S => stepF c E (evCallF E (evF E n)) (evF E n) S) = (fun c S => stepC c E (evCall E (ev E n)) (ev E n) S)
    rw [evF_eq E n, show evCallF E (ev E n) = evCall E (ev E n) from funext fun f => funext fun a => funext fun S => evCallF_eq E (ev E n) f a S]
    funext c S
    exact stepF_eq _ _ _ _ _
noncomputable def evTopF (E : Env) (n : Nat) (G : TR LB) (f : FuncId) (args : List SV) : Option SV :=
  @Option.rec (SV × St) (fun _ => Option SV) none (fun q => some q.1) (funcKF E.P.funcs[f]? E (evF E n) args ⟨.e, 0, G, E.ng, 0, 0, E.ng⟩)
theorem evTopF_eq (E : Env) (n : Nat) (G : TR LB) (f : FuncId) (args : List SV) : evTopF E n G f args = evTop E n G f args := by
  unfold evTopF evTop
  rw [evF_eq, funcKF_eq]
  cases funcK E.P.funcs[f]? E (ev E n) args ⟨.e, 0, G, E.ng, 0, 0, E.ng⟩ <;> rfl
end Go.Proofs.YtndpcphmndfajaaGreatDoor

namespace Go.Proofs.YtndpcphmndfajaaGreatDoor
open Go.RowKit
set_option linter.unusedVariables false
set_option linter.unusedSimpArgs false

def sameV : SV → SV → Bool
  | .i k a, .i l b => match eqK k l with
    | true => eqI a b
    | false => false
  | .s a, .s b => eqN a b
  | .b true, .b true => true
  | .b false, .b false => true
  | _, _ => false
def sameVs : List SV → List SV → Bool
  | [], [] => true
  | x :: l, y :: r => match sameV x y with
    | true => sameVs l r
    | false => false
  | _, _ => false
theorem sameV_eq {x y : SV} (h : sameV x y = true) : x = y := by
  unfold sameV at h
  split at h
  · split at h
    · rename_i hk
      rw [eqK_eq hk]
      rw [eqI_eq] at h
      rw [of_decide_eq_true h]
    · cases h
  · rw [eqN_eq] at h
    rw [of_decide_eq_true h]
  · rfl
  · rfl
  · cases h
theorem sameVs_eq : ∀ {x y : List SV}, sameVs x y = true → x = y
  | [], [], _ => rfl
  | [], _ :: _, h => by cases h
  | _ :: _, [], h => by cases h
  | x :: l, y :: r, h => by
    unfold sameVs at h
    split at h
    · rename_i hk
      rw [sameV_eq hk, sameVs_eq h]
    · cases h
structure Fact where
  f : FuncId
  args : List SV
  v : SV
def findF : List Fact → FuncId → List SV → Option SV
  | [], _, _ => none
  | p :: L, f, args => match Nat.beq p.f f with
    | true => match sameVs p.args args with
      | true => some p.v
      | false => findF L f args
    | false => findF L f args
theorem findF_mem : ∀ {L : List Fact} {f : FuncId} {args : List SV} {v : SV}, findF L f args = some v → ∃ p ∈ L, p = ⟨f, args, v⟩
  | [], _, _, _, h => by cases h
  | ⟨f', a', v'⟩ :: L, f, args, v, h => by
    unfold findF at h
    split at h
    · rename_i h1
      split at h
      · rename_i h2
        have h1 : f' = f := Nat.eq_of_beq_eq_true h1
        have h2 : a' = args := sameVs_eq h2
        obtain rfl : v' = v := Option.some.inj h
        subst h1
        subst h2
        exact ⟨_, List.mem_cons_self, rfl⟩
      · obtain ⟨p, hp, e⟩ := findF_mem h
        exact ⟨p, List.mem_cons_of_mem _ hp, e⟩
    · obtain ⟨p, hp, e⟩ := findF_mem h
      exact ⟨p, List.mem_cons_of_mem _ hp, e⟩
def orP : Option SV → FuncId → List SV → Option SV
  | some v, _, _ => some v
  | none, f, args => pureF f args
/-- 'm' holds the facts' functions, bit by bit. -/
def pureX (m : Nat) (L : List Fact) (f : FuncId) (args : List SV) : Option SV :=
  match Nat.beq (Nat.land (Nat.shiftRight m f) 1) 0 with
  | true => pureF f args
  | false => orP (findF L f args) f args
noncomputable def EL (m : Nat) (L : List Fact) : Env := ⟨Tryz.prog, 5, pureX m L, Nat.beq 132, overF⟩

/-- The worlds in which the call begins. -/
structure Start (w : World) : Prop where
  mx : MxL w
  at' : ∀ b x, G0.get b = some x → b < 5 ∧ ∃ o, w.heap[b]? = some o ∧ BR (ren0 5) x o
  ng : 5 ≤ w.heap.size
theorem Start.below {w w' : World} (h : Start w) (hb : Below w.heap.size w w') : Start w' where
  mx := h.mx.below hb
  ng := Nat.le_trans h.ng hb.size
  at' b x hx := by
    obtain ⟨h1, o, h2, h3⟩ := h.at' b x hx
    exact ⟨h1, o, by rw [hb.block b (Array.getElem?_eq_some_iff.1 h2).1]; exact h2, h3⟩
theorem start_of {w : World} (hs : w.ShapedOpen Tryz.prog) (h : laidMet Tryz.prog laid4 w) : Start w :=
  ⟨mx_of hs, fun b x hx => (laid0 hs h).at' b x hx, (laid0 hs h).ng⟩

/-- What is told of a call: in every world where the call begins. -/
structure Known (p : Fact) : Prop where
  ga : grs p.args = true
  gv : gr p.v = true
  bd : ∃ fn c, Tryz.prog.funcs[p.f]? = some fn ∧ fn.body = some c
  tells : ∀ w, Start w → ∀ us, VRs (ren0 0) p.args us → Calls Tryz.prog p.f us.toArray w (fun e w' => ∃ u, e = .returned u ∧ VR (ren0 0) p.v u ∧ Below w.heap.size w w')

theorem over1 {m : Nat} {L : List Fact} {w0 : World} (f : FuncId) (args : List SV) (S S' : St) (v : SV) (h : known args (EL m L) f S = some (v, S')) : CallSim ⟨EL m L, w0⟩ f args S S' v := by
  have he : ∀ us w, (callFunc 132 us).run Tryz.prog w = .ok (.enter 132 us) w := fun us w => enterE _ _ _ Tryz.func132 rfl us w
  have EL_over : (EL m L).over = overF := rfl
  cases args with
  | nil => cases h
  | cons x rest =>
  cases x
  case sl b o n c =>
    simp only [known] at h
    split at h
    · cases hr : rdCells S b o n with
      | none => rw [hr] at h; cases h
      | some cs =>
        rw [hr] at h
        obtain ⟨h1, rfl⟩ := pairS_inv h
        rw [EL_over] at h1
        obtain ⟨rfl, h2⟩ := overF_inv h1
        obtain ⟨sep, l, rfl, hj, hl1, hl2, rfl⟩ := oJoin_inv h2
        exact join_some (X := ⟨EL m L, w0⟩) he Tryz.strings_Join hr hj hl1 hl2
    · cases h
  case ns =>
    simp only [known] at h
    split at h
    · obtain ⟨h1, rfl⟩ := pairS_inv h
      rw [EL_over] at h1
      obtain ⟨rfl, h2⟩ := overF_inv h1
      obtain ⟨sep, l, rfl, hj, hl1, hl2, rfl⟩ := oJoin_inv h2
      simp only [joinS, Option.some.injEq] at hj
      subst hj
      exact join_none (X := ⟨EL m L, w0⟩) he (Tryz.strings_Join_none none 0)
    · cases h
  all_goals cases h
/-- A rule for pure calls speaks of the program and of the world alone. -/
theorem callsim_env {E E' : Env} {w0 : World} (hP : E.P = E'.P) (hn : E.ng = E'.ng) {f : FuncId} {args : List SV} {v : SV} {S : St} (h : CallSim ⟨E, w0⟩ f args S S v) : CallSim ⟨E', w0⟩ f args S S v := by
  intro hok
  obtain ⟨h1, h2, h3⟩ := h hok
  refine ⟨h1, h2, fun F ρ w us hw hf hm hus o a K Q hp => ?_⟩
  have back : ∀ {F : Nat → Prop} {ρ : Ren} {H : TR LB} {w : World}, MR ⟨E', w0⟩ F ρ H w → MR ⟨E, w0⟩ F ρ H w := fun g =>
    ⟨g.hp, g.dd, g.fn, g.ij, g.rg, fun b n x y z => g.lo b n x y (by show E'.ng ≤ b; rw [← hn]; exact z), fun k hk => g.gl k (by show k < E'.ng; rw [← hn]; exact hk), fun b n l e k z a1 a2 a3 a4 a5 => g.cp b n l e k z a1 a2 a3 a4 (by show sizeT E'.P e = some z; rw [← hP]; exact a5), g.bl⟩
  have forth : ∀ {F : Nat → Prop} {ρ : Ren} {H : TR LB} {w : World}, MR ⟨E, w0⟩ F ρ H w → MR ⟨E', w0⟩ F ρ H w := fun g =>
    ⟨g.hp, g.dd, g.fn, g.ij, g.rg, fun b n x y z => g.lo b n x y (by show E.ng ≤ b; rw [hn]; exact z), fun k hk => g.gl k (by show k < E.ng; rw [hn]; exact hk), fun b n l e k z a1 a2 a3 a4 a5 => g.cp b n l e k z a1 a2 a3 a4 (by show sizeT E.P e = some z; rw [hP]; exact a5), g.bl⟩
  have := h3 F ρ w us hw hf (back hm) hus o a K Q (fun u w' σ h4 h5 h6 => hp u w' σ h4 h5 (forth h6))
  show o.upon E'.P a K Q ((callFunc f us.toArray).run E'.P w)
  rw [← hP]
  exact this
theorem rules1 {m : Nat} {L : List Fact} (hL : ∀ p ∈ L, Known p) {w0 : World} (h0 : Start w0) : Rules ⟨EL m L, w0⟩ where
  mixed := by
    have EL_P : (EL m L).P = Tryz.prog := rfl
    show (EL m L).P.follows .mixedOrders = true
    rw [EL_P]
    exact Tryz.lays156.mixed
  pure := fun f args v h S => by
    have hp : ∀ {f args v}, pureF f args = some v → CallSim ⟨EL m L, w0⟩ f args S S v := fun h => callsim_env (E := E0) (E' := EL m L) rfl rfl (pure0 h0.mx _ _ _ h S)
    have h : pureX m L f args = some v := h
    unfold pureX at h
    split at h
    · exact hp h
    · cases hf : findF L f args with
      | none => rw [hf] at h; exact hp h
      | some v' =>
        rw [hf] at h
        obtain rfl : v' = v := Option.some.inj h
        obtain ⟨p, hm, rfl⟩ := findF_mem hf
        have hk := hL _ hm
        obtain ⟨fn, c, b1, b2⟩ := hk.bd
        refine callsim_of_tells (X := ⟨EL m L, w0⟩) hk.ga hk.gv (fun w hw us hus => hk.tells w (h0.below hw) us hus) (fun us w => enterE _ _ _ b1 b2 us w) S
  over := fun f args S v S' h => over1 f args S S' v h
  enter := fun f fn c hf hb args w => enterE f fn c hf hb args w

def isSm {α : Type} : Option α → Bool | some _ => true | none => false
noncomputable def bodyB (f : FuncId) : Bool := match Tryz.prog.funcs[f]? with | some fn => isSm fn.body | none => false
theorem bodyB_ok {f : FuncId} (h : bodyB f = true) : ∃ fn c, Tryz.prog.funcs[f]? = some fn ∧ fn.body = some c := by
  unfold bodyB at h
  split at h
  · rename_i fn hf
    cases hb : fn.body with
    | none => rw [hb] at h; cases h
    | some c => exact ⟨fn, c, hf, hb⟩
  · cases h
theorem known_of (m : Nat) (L : List Fact) (hL : ∀ p ∈ L, Known p) (n : Nat) (p : Fact) (hb : bodyB p.f = true) (hg : grs p.args = true) (hgv : gr p.v = true) (h : evTopF (EL m L) n G0 p.f p.args = some p.v) : Known p where
  ga := hg
  gv := hgv
  bd := bodyB_ok hb
  tells w hw us hus := by
    rw [evTopF_eq] at h
    have hG : Laid ⟨EL m L, w⟩ G0 := ⟨hw.ng, hw.at'⟩
    exact rules_of (X := ⟨EL m L, w⟩) (fun w' hw' => rules1 hL (hw.below hw')) hG hg hgv h w (Below.refl _ _) us hus
end Go.Proofs.YtndpcphmndfajaaGreatDoor
