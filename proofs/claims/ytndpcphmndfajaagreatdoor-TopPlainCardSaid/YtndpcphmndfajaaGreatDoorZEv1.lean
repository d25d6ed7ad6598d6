/- An evaluator of the model's code on data of its own, made to be run by the kernel: definitions. Its runs are shown to be the model's in the texts behind this one. -/
import Derived.Orders
import Derived.Tactics

namespace Go.Proofs.YtndpcphmndfajaaGreatDoor
set_option linter.unusedVariables false

/-- Values: 'ju' is some one cell, 'und' no value; 'p b o' points to cell o of the block with the name b; 'sz' is some slice that isn't nil, without an element. -/
inductive SV where
  | ju
  | und
  | b (x : Bool)
  | i (k : IntKind) (n : Int)
  | s (l : List Nat)
  | np
  | p (b o : Nat)
  | ns
  | sl (b o n : Nat) (c : Option Nat)
  | sz (c : Option Nat)
  | nm
  | m (b : Nat)
  | nf
  | f (f : FuncId) (x y : List SV)
  | agg (l : List SV)
  | tup (l : List SV)

inductive LB where
  | cells (l : List SV) (e : TypeId)
  | map (es : List (SV × SV × Nat)) (k : Nat)
  | it (l : List Nat) (pos : Nat)

inductive TR (α : Type) where
  | e
  | n (l : TR α) (v : Option α) (r : TR α)

def TR.get {α : Type} : TR α → Nat → Option α
  | .e, _ => none
  | .n _ v _, 0 => v
  | .n l _ r, k + 1 => match Nat.beq (Nat.mod k 2) 0 with
    | true => l.get (Nat.div k 2)
    | false => r.get (Nat.div k 2)

def TR.set {α : Type} : Nat → TR α → Nat → Option α → TR α
  | 0, t, _, _ => t
  | _ + 1, .e, 0, x => .n .e x .e
  | f + 1, .e, k + 1, x => match Nat.beq (Nat.mod k 2) 0 with
    | true => .n (TR.set f .e (Nat.div k 2) x) none .e
    | false => .n .e none (TR.set f .e (Nat.div k 2) x)
  | _ + 1, .n l _ r, 0, x => .n l x r
  | f + 1, .n l v r, k + 1, x => match Nat.beq (Nat.mod k 2) 0 with
    | true => .n (TR.set f l (Nat.div k 2) x) v r
    | false => .n l v (TR.set f r (Nat.div k 2) x)

structure St where
  T : TR SV
  nt : Nat
  H : TR LB
  c : Nat
  r : Nat
  w : Nat
  ng : Nat

def St.put (S : St) (d : Option Tmp) (v : SV) : Option St :=
  match d with
  | none => some S
  | some t => match Nat.blt t S.nt with
    | true => some { S with T := S.T.set (t + 1) t (some v) }
    | false => none
def St.saw (S : St) (b : Nat) : St := { S with r := Nat.lor S.r (Nat.shiftLeft 1 b) }
/-- A block's new contents ('none': the name is given up). -/
def St.wr (S : St) (b : Nat) (x : Option LB) : St := { S with H := S.H.set (b + 1) b x, w := Nat.lor S.w (Nat.shiftLeft 1 b) }
def St.new (S : St) (x : LB) : St := { S with H := S.H.set (S.c + 1) S.c (some x), c := S.c + 1 }

def ofV1 : Value → Option SV
  | .bool x => some (.b x)
  | .int k n => some (.i k n)
  | .string s => some (.s (s.data.toList.map UInt8.toNat))
  | .pointer none => some .np
  | .slice none 0 0 => some .ns
  | .map none => some .nm
  | .nilFunc => some .nf
  | _ => none
def ofVs : List Value → Option (List SV)
  | [] => some []
  | v :: l => match ofV1 v, ofVs l with
    | some x, some xs => some (x :: xs)
    | _, _ => none
def ofV : Value → Option SV
  | .agg cs => (ofVs cs.toList).map .agg
  | .tuple cs => match cs.toList with
    | [] => some .und
    | _ => none
  | v => ofV1 v

def St.opd (S : St) : Operand → Option SV
  | .tmp t => S.T.get t
  | .const v => ofV v
  | .global g => match Nat.blt g S.ng with
    | true => some (.p g 0)
    | false => none
  | .func f => some (.f f [] [])
def St.opds (S : St) : List Operand → Option (List SV)
  | [] => some []
  | x :: l => match S.opd x with
    | some v => match S.opds l with
      | some vs => some (v :: vs)
      | none => none
    | none => none

def St.opd? (S : St) : Option Operand → Option (Option SV)
  | none => some none
  | some x => match S.opd x with
    | some v => some (some v)
    | none => none

def SV.cells : SV → List SV
  | .agg l => l
  | v => [v]
/-- A value of one cell. -/
def SV.one : SV → Bool
  | .agg _ | .tup _ | .und => false
  | _ => true

def eqN : List Nat → List Nat → Bool
  | [], [] => true
  | a :: x, b :: y => match Nat.beq a b with
    | true => eqN x y
    | false => false
  | _, _ => false

/-- The kinds' arithmetic on naturals. -/
def modN : IntKind → Nat
  | .i8 | .u8 => 256
  | .i16 | .u16 => 65536
  | .i32 | .u32 => 4294967296
  | .i64 | .u64 => 18446744073709551616
def halfN : IntKind → Nat
  | .i8 => 128
  | .i16 => 32768
  | .i32 => 2147483648
  | .i64 => 9223372036854775808
  | _ => 18446744073709551616
def lowN (k : IntKind) (x : Int) : Nat :=
  match x with
  | .ofNat m => Nat.mod m (modN k)
  | .negSucc m => Nat.sub (Nat.sub (modN k) 1) (Nat.mod m (modN k))
def sgnN (k : IntKind) (r : Nat) : Int :=
  match Nat.ble (halfN k) r with
  | true => .negSucc (Nat.sub (Nat.sub (modN k) 1) r)
  | false => .ofNat r
def wrapE (k : IntKind) (x : Int) : Int := sgnN k (lowN k x)
def eqI : Int → Int → Bool
  | .ofNat a, .ofNat b => Nat.beq a b
  | .negSucc a, .negSucc b => Nat.beq a b
  | _, _ => false
def leI : Int → Int → Bool
  | .ofNat a, .ofNat b => Nat.ble a b
  | .negSucc a, .negSucc b => Nat.ble b a
  | .negSucc _, .ofNat _ => true
  | .ofNat _, .negSucc _ => false
def eqK : IntKind → IntKind → Bool
  | .i8, .i8 | .i16, .i16 | .i32, .i32 | .i64, .i64 | .u8, .u8 | .u16, .u16 | .u32, .u32 | .u64, .u64 => true
  | _, _ => false
def evQuo : Bool → IntKind → Int → Int → Option SV
  | true, _, _, _ => none
  | false, k, a, b => some (.i k (wrapE k (a.tdiv b)))
def evRem : Bool → IntKind → Int → Int → Option SV
  | true, _, _, _ => none
  | false, k, a, b => some (.i k (a.tmod b))
def evInt : BinOp → IntKind → Int → Int → Option SV
  | .add, k, a, b => some (.i k (wrapE k (Int.add a b)))
  | .sub, k, a, b => some (.i k (wrapE k (Int.sub a b)))
  | .mul, k, a, b => some (.i k (wrapE k (Int.mul a b)))
  | .quo, k, a, b => evQuo (eqI b (.ofNat 0)) k a b
  | .rem, k, a, b => evRem (eqI b (.ofNat 0)) k a b
  | .and, k, a, b => some (.i k (sgnN k (Nat.land (lowN k a) (lowN k b))))
  | .or, k, a, b => some (.i k (sgnN k (Nat.lor (lowN k a) (lowN k b))))
  | .xor, k, a, b => some (.i k (sgnN k (Nat.xor (lowN k a) (lowN k b))))
  | .andNot, k, a, b => some (.i k (sgnN k (Nat.land (lowN k a) (Nat.sub (Nat.sub (modN k) 1) (lowN k b)))))
  | .eql, _, a, b => some (.b (eqI a b))
  | .neq, _, a, b => some (.b (not (eqI a b)))
  | .lss, _, a, b => some (.b (not (leI b a)))
  | .leq, _, a, b => some (.b (leI a b))
  | .gtr, _, a, b => some (.b (not (leI a b)))
  | .geq, _, a, b => some (.b (leI b a))
  | _, _, _, _ => none
def bitsN : IntKind → Nat
  | .i8 | .u8 => 8
  | .i16 | .u16 => 16
  | .i32 | .u32 => 32
  | .i64 | .u64 => 64
def minN (a b : Nat) : Nat :=
  match Nat.ble a b with
  | true => a
  | false => b
def evShl : Int → IntKind → Int → Option SV
  | .negSucc _, _, _ => none
  | .ofNat b, k, a => some (.i k (wrapE k (Int.mul a (.ofNat (Nat.pow 2 (minN b (bitsN k)))))))
def evShr : Int → IntKind → Int → Option SV
  | .negSucc _, _, _ => none
  | .ofNat b, k, a => some (.i k (a.fdiv (.ofNat (Nat.pow 2 (minN b (bitsN k))))))

def aggT (P : Program) (t : TypeId) : Option Bool :=
  match P.underlying t with
  | some (.struct _) | some (.array _ _) => some true
  | some _ => some false
  | none => none
def sizeT (P : Program) (t : TypeId) : Option Nat := (P.info? t).map (·.size)
def zeroT (P : Program) (t : TypeId) : Option (List SV) :=
  match P.info? t with
  | some i => match i.zero with
    | some z => ofVs z.cells.toList
    | none => none
  | none => none
def partA : Option Nat → List SV → Nat → Option SV
  | some n, cs, off => some (.agg ((cs.drop off).take n))
  | none, _, _ => none
def partK : Option Bool → Program → TypeId → List SV → Nat → Option SV
  | some true, P, t, cs, off => partA (sizeT P t) cs off
  | some false, _, _, cs, off => cs[off]?
  | none, _, _, _, _ => none
def evPart (P : Program) (t : TypeId) (cs : List SV) (off : Nat) : Option SV := partK (aggT P t) P t cs off

mutual
def eqV (P : Program) : Nat → TypeId → SV → SV → Option Bool
  | 0, _, _, _ => none
  | d + 1, t, x, y => match P.underlying t, x, y with
    | some .bool, .b a, .b b => some (a == b)
    | some (.int _), .i k a, .i k' b => match eqK k k' with
      | true => some (eqI a b)
      | false => none
    | some .string, .s a, .s b => some (eqN a b)
    | some (.pointer _), .np, .np => some true
    | some (.pointer _), .np, .p _ _ => some false
    | some (.pointer _), .p _ _, .np => some false
    | some (.slice _), .ns, .ns => some true
    | some (.slice _), .ns, .sl _ _ _ _ => some false
    | some (.slice _), .sl _ _ _ _, .ns => some false
    | some (.slice _), .ns, .sz _ => some false
    | some (.slice _), .sz _, .ns => some false
    | some (.struct fs), .agg xs, .agg ys => match P.stoodInHeld t with
      | true => none
      | false => eqFs P d fs.toList xs ys
    | some (.array n e), .agg xs, .agg ys => match sizeT P e with
      | some z => eqEs P d e z (List.range n) xs ys
      | none => none
    | _, _, _ => none
def eqFs (P : Program) : Nat → List Field → List SV → List SV → Option Bool
  | 0, _, _, _ => none
  | _ + 1, [], _, _ => some true
  | d + 1, f :: fs, xs, ys => match decide (f.name = "_") with
    | true => none
    | false => match evPart P f.type xs f.offset, evPart P f.type ys f.offset with
      | some a, some b => match eqV P d f.type a b with
        | some true => eqFs P d fs xs ys
        | some false => some false
        | none => none
      | _, _ => none
def eqEs (P : Program) : Nat → TypeId → Nat → List Nat → List SV → List SV → Option Bool
  | 0, _, _, _, _, _ => none
  | _ + 1, _, _, [], _, _ => some true
  | d + 1, e, z, i :: is, xs, ys => match evPart P e xs (i * z), evPart P e ys (i * z) with
    | some a, some b => match eqV P d e a b with
      | some true => eqEs P d e z is xs ys
      | some false => some false
      | none => none
    | _, _ => none
end

def optB : Option Bool → Option SV
  | some r => some (.b r)
  | none => none
def optN : Option Bool → Option SV
  | some r => some (.b (not r))
  | none => none
def evBinI : BinOp → IntKind → Int → IntKind → Int → Option SV
  | .shl, k, a, _, b => evShl b k a
  | .shr, k, a, _, b => evShr b k a
  | op, k, a, k', b => match eqK k k' with
    | true => evInt op k a b
    | false => none
def addS : Bool → List Nat → List Nat → Option SV
  | true, a, b => some (.s (a ++ b))
  | false, _, _ => none
def evBinS : BinOp → List Nat → List Nat → Option SV
  | .add, a, b => addS (Nat.ble (Nat.add a.length b.length) 1152921504606846976) a b
  | .eql, a, b => some (.b (eqN a b))
  | .neq, a, b => some (.b (not (eqN a b)))
  | _, _, _ => none
def evBinA : Bool → BinOp → Program → TypeId → List SV → List SV → Option SV
  | false, .eql, P, t, a, b => optB (eqV P 40 t (.agg a) (.agg b))
  | false, .neq, P, t, a, b => optN (eqV P 40 t (.agg a) (.agg b))
  | _, _, _, _, _, _ => none
def evBinX : BinOp → Program → TypeId → SV → SV → Option SV
  | .eql, P, t, x, y => optB (eqV P 2 t x y)
  | .neq, P, t, x, y => optN (eqV P 2 t x y)
  | _, _, _, _, _ => none
def evBin : SV → SV → Program → BinOp → TypeId → Option SV
  | .i k a, .i k' b, _, op, _ => evBinI op k a k' b
  | .s a, .s b, _, op, _ => evBinS op a b
  | .agg a, .agg b, P, op, t => evBinA (P.eqGuardType P.depth t) op P t a b
  | x, y, P, op, t => evBinX op P t x y

def evUn : UnOp → SV → Option SV
  | .neg, .i k n => evInt .sub k (.ofNat 0) n
  | .xor, .i k n => evInt .xor k (if k.signed then -1 else k.max) n
  | .not, .b x => some (.b (not x))
  | _, _ => none

/-- Bytes as cells, and back. -/
def toCells (l : List Nat) : List SV := l.map fun n => .i .u8 (Int.ofNat n)
def ofCells : List SV → Option (List Nat)
  | [] => some []
  | .i .u8 (.ofNat n) :: l => match Nat.blt n 256 with
    | true => match ofCells l with
      | some r => some (n :: r)
      | none => none
    | false => none
  | _ => none
def encL (r : Int) : List Nat := (Utf8.encode r).data.toList.map UInt8.toNat

def setAt (l : List SV) (o : Nat) (vs : List SV) : List SV := l.take o ++ (vs ++ l.drop (o + vs.length))
def evFill (place : Nat → Option (Nat × Nat)) (cells : List SV) : List (Nat × SV) → Option (List SV)
  | [] => some cells
  | (i, v) :: rest => match place i with
    | none => none
    | some (off, size) => match Nat.beq v.cells.length size && Nat.ble (off + v.cells.length) cells.length with
      | true => evFill place (setAt cells off v.cells) rest
      | false => none
def places (P : Program) : List Field → Option (List (Nat × Nat))
  | [] => some []
  | f :: fs => match sizeT P f.type, places P fs with
    | some n, some l => some ((f.offset, n) :: l)
    | _, _ => none
def allOne : List SV → Bool
  | [] => true
  | v :: l => match v.one with
    | true => allOne l
    | false => false
def allCells : List (Nat × SV) → Bool
  | [] => true
  | v :: l => match allOne v.2.cells with
    | true => allCells l
    | false => false
def evParts (S : St) : List (Nat × Operand) → Option (List (Nat × SV))
  | [] => some []
  | (i, x) :: l => match S.opd x, evParts S l with
    | some v, some vs => some ((i, v) :: vs)
    | _, _ => none
def repZ (z : List SV) : Nat → List SV
  | 0 => []
  | n + 1 => z ++ repZ z n

/-- n cells from a place on. -/
def rdK : Bool → List SV → Nat → Nat → Option (List SV)
  | true, l, o, n => some ((l.drop o).take n)
  | false, _, _, _ => none
def rdB : Option LB → Nat → Nat → Option (List SV)
  | some (.cells l _), o, n => rdK (Nat.ble (Nat.add o n) l.length) l o n
  | _, _, _ => none
def rdCells (S : St) (b o n : Nat) : Option (List SV) := rdB (S.H.get b) o n
def wrK : Bool → St → Nat → Nat → List SV → List SV → TypeId → Option St
  | true, S, b, o, l, vs, e => some (S.wr b (some (.cells (setAt l o vs) e)))
  | false, _, _, _, _, _, _ => none
def wrB : Option LB → Nat → St → Nat → Nat → List SV → Option St
  | some (.cells l e), ng, S, b, o, vs => wrK (and (Nat.ble (Nat.add o vs.length) l.length) (and (Nat.ble ng b) (allOne vs))) S b o l vs e
  | _, _, _, _, _, _ => none
def wrCells (ng : Nat) (S : St) (b o : Nat) (vs : List SV) : Option St := wrB (S.H.get b) ng S b o vs
def aggR : Option (List SV) → St → Option (SV × St)
  | some l, S => some (.agg l, S)
  | none, _ => none
def oneR : Option (List SV) → St → Option (SV × St)
  | some (v :: _), S => some (v, S)
  | _, _ => none
def loadA : Option Nat → St → Nat → Nat → Option (SV × St)
  | some n, S, b, o => aggR (rdCells S b o n) (S.saw b)
  | none, _, _, _ => none
def loadK : Option Bool → Program → St → TypeId → Nat → Nat → Option (SV × St)
  | some true, P, S, t, b, o => loadA (sizeT P t) S b o
  | some false, _, S, _, b, o => oneR (rdCells S b o 1) (S.saw b)
  | none, _, _, _, _, _ => none
def evLoad : SV → Program → St → TypeId → Option (SV × St)
  | .p b o, P, S, t => loadK (aggT P t) P S t b o
  | _, _, _, _ => none
def storeK : Option Nat → Nat → St → Nat → Nat → List SV → Option St
  | some n, ng, S, b, o, vs => match Nat.beq vs.length n with
    | true => wrCells ng S b o vs
    | false => none
  | none, _, _, _, _, _ => none
def evStore : SV → Program → Nat → St → TypeId → SV → Option St
  | .p b o, P, ng, S, t, v => storeK (sizeT P t) ng S b o v.cells
  | _, _, _, _, _, _ => none

def bound (x : Option SV) (d hi : Nat) : Option Nat :=
  match x with
  | none => some d
  | some (.i _ (.ofNat n)) => match Nat.ble n hi with
    | true => some n
    | false => none
  | _ => none
def elemT (P : Program) (t : TypeId) : Option (TypeId × Nat) :=
  match P.underlying t with
  | some (.slice e) => (sizeT P e).map fun n => (e, n)
  | _ => none
def evSlice (P : Program) (t : TypeId) (x : SV) (lo hi mx : Option SV) : Option SV :=
  match x with
  | .s l => match P.underlying t, mx with
    | some .string, none => match bound hi l.length l.length with
      | some h => match bound lo 0 h with
        | some k => some (.s ((l.drop k).take (h - k)))
        | none => none
      | none => none
    | _, _ => none
  | .ns => match elemT P t, bound mx 0 0, bound hi 0 0, bound lo 0 0 with
    | some _, some _, some _, some _ => (match mx, hi with
      | some _, none => none
      | _, _ => some .ns)
    | _, _, _, _ => none
  | .sz c => match elemT P t, bound mx 0 0, bound hi 0 0, bound lo 0 0 with
    | some _, some _, some _, some _ => match mx, hi with
      | some _, some _ => some (.sz (some 0))
      | none, _ => some (.sz c)
      | _, _ => none
    | _, _, _, _ => none
  | .sl b o n c => match elemT P t with
    | some (e, z) => match mx with
      | none => match bound hi n (c.getD n) with
        | some h => match bound lo 0 h with
          | some k => match Nat.beq k 0 with
            | true => some (.sl b o h c)
            | false => match Nat.blt k h with
              | true => match Nat.blt 0 (k * z) with
                | true => some (.sl b (o + k * z) (h - k) (c.map (· - k)))
                | false => none
              | false => some (.sz (c.map (· - k)))
          | none => none
        | none => none
      | some _ => match bound mx 0 (c.getD n), hi with
        | some m, some _ => match bound hi n m with
          | some h => match bound lo 0 h with
            | some k => match Nat.blt k h with
              | true => some (.sl b (o + k * z) (h - k) (some (m - k)))
              | false => some (.sz (some (m - k)))
            | none => none
          | none => none
        | _, _ => none
    | none => none
  | .p b o => match P.underlying t, mx with
    | some (.array n e), none => match sizeT P e with
      | some z => match bound hi n n with
        | some h => match bound lo 0 h with
          | some k => match Nat.beq k 0 with
            | true => some (.sl b o h (some n))
            | false => none
          | none => none
        | none => none
      | none => none
    | _, _ => none
  | _ => none

def fieldK : Option Field → Program → List SV → Option SV
  | some f, P, l => evPart P f.type l f.offset
  | none, _, _ => none
def evField : Option TypeDesc → SV → Program → Nat → Option SV
  | some (.struct fs), .agg l, P, k => fieldK fs[k]? P l
  | _, _, _, _ => none
def addP : Option Nat → Nat → Nat → Nat → Option SV
  | some (_ + 1), b, o, k => some (.p b (Nat.add o k))
  | _, _, _, _ => none
def fieldAK : Option Field → Program → Nat → Nat → Option SV
  | some f, P, b, o => addP (sizeT P f.type) b o f.offset
  | none, _, _, _ => none
def evFieldAddr : Option TypeDesc → SV → Program → Nat → Option SV
  | some (.struct fs), .p b o, P, k => fieldAK fs[k]? P b o
  | _, _, _, _ => none
def idxK : Option Nat → Bool → Nat → Nat → Nat → Option SV
  | some z, true, b, o, i => some (.p b (Nat.add o (Nat.mul i z)))
  | _, _, _, _, _ => none
def idxAK : Option TypeDesc → SV → Program → Nat → Option SV
  | some (.array n e), .p b o, P, i => idxK (sizeT P e) (Nat.blt i n) b o i
  | some (.slice e), .sl b o n _, P, i => idxK (sizeT P e) (Nat.blt i n) b o i
  | _, _, _, _ => none
def evIndexAddr : SV → SV → Program → TypeId → Option SV
  | .i _ (.ofNat i), x, P, t => idxAK (P.underlying t) x P i
  | _, _, _, _ => none
def idxE : Option Nat → Bool → Program → TypeId → List SV → Nat → Option SV
  | some z, true, P, e, l, i => evPart P e l (Nat.mul i z)
  | _, _, _, _, _, _ => none
/-- The bytes as one number: the kernel keeps it. -/
def natQ : List Nat → Nat
  | [] => 0
  | a :: l => Nat.add (Nat.mul 256 (natQ l)) a
def okQ : List Nat → Bool
  | [] => true
  | a :: l => match Nat.blt a 256 with | true => okQ l | false => false
def lenQ : List Nat → Nat
  | [] => 0
  | _ :: l => Nat.succ (lenQ l)
def atQ : Bool → Bool → List Nat → Nat → Option Nat
  | true, true, l, i => some (Nat.mod (Nat.shiftRight (natQ l) (Nat.mul 8 i)) 256)
  | true, false, l, i => l[i]?
  | false, _, _, _ => none
def atN (l : List Nat) (i : Nat) : Option Nat := atQ (Nat.blt i (lenQ l)) (okQ l) l i
theorem lenQ_eq : ∀ l : List Nat, lenQ l = l.length
  | [] => rfl
  | a :: l => by show Nat.succ (lenQ l) = _; rw [lenQ_eq l]; rfl
theorem natQ_at : ∀ (l : List Nat) (i : Nat), okQ l = true → i < l.length → some (natQ l >>> (8 * i) % 256) = l[i]?
  | [], i, _, h => absurd h (Nat.not_lt_zero _)
  | a :: l, i, h, hi => by
    have h1 : (match Nat.blt a 256 with | true => okQ l | false => false) = true := h
    have e : natQ (a :: l) = 256 * natQ l + a := rfl
    cases hb : Nat.blt a 256 with
    | false => rw [hb] at h1; cases h1
    | true =>
      rw [hb] at h1
      have ha : a < 256 := by simpa using hb
      cases i with
      | zero => simp [e]; omega
      | succ i =>
        have ih := natQ_at l i h1 (by simpa using hi)
        rw [List.getElem?_cons_succ, ← ih, e, Nat.mul_succ, Nat.add_comm (8 * i) 8, Nat.shiftRight_add]
        congr 2
        congr 1
        rw [Nat.shiftRight_eq_div_pow]
        omega
theorem atN_eq (l : List Nat) (i : Nat) : atN l i = l[i]? := by
  unfold atN
  rw [lenQ_eq]
  cases hb : Nat.blt i l.length with
  | false =>
    have : ¬ i < l.length := by rw [← Nat.blt_eq, hb]; simp
    rw [List.getElem?_eq_none (by omega)]
    cases okQ l <;> rfl
  | true =>
    have hi : i < l.length := by rw [← Nat.blt_eq]; exact hb
    cases ho : okQ l with
    | false => rfl
    | true => exact natQ_at l i ho hi
def byteR : Option Nat → Option SV
  | some b => some (.i .u8 (.ofNat b))
  | none => none
def idxB : Option TypeDesc → SV → Program → Nat → Option SV
  | some (.array n e), .agg l, P, i => idxE (sizeT P e) (Nat.blt i n) P e l i
  | some .string, .s l, _, i => byteR (atN l i)
  | _, _, _, _ => none
def evIndex : SV → SV → Program → TypeId → Option SV
  | .i _ (.ofNat i), x, P, t => idxB (P.underlying t) x P i
  | _, _, _, _ => none

def evConv (P : Program) (S : St) (src dst : TypeId) (x : SV) : Option (SV × St) :=
  match P.underlying src, P.underlying dst, x with
  | some (.int _), some (.int k), .i _ n => some (.i k (wrapE k n), S)
  | some (.int _), some .string, .i _ n => some (.s (encL n), S)
  | some .string, some .string, .s l => some (.s l, S)
  | some .string, some (.slice e), .s l => match P.underlying e with
    | some (.int .u8) => match sizeT P e with
      | some 1 => some (.sl S.c 0 l.length none, S.new (.cells (toCells l) e))
      | _ => none
    | _ => none
  | some (.slice e), some .string, x => match P.underlying e, x with
    | some (.int .u8), .ns => some (.s [], S)
    | some (.int .u8), .sz _ => some (.s [], S)
    | some (.int .u8), .sl b o n _ => match rdCells S b o n with
      | some l => match ofCells l with
        | some r => some (.s r, S.saw b)
        | none => none
      | none => none
    | _, _ => none
  | _, _, _ => none

def evLen (P : Program) (S : St) (t : TypeId) (x : SV) : Option (SV × St) :=
  match P.underlying t, x with
  | some .string, .s l => some (.i .i64 (Int.ofNat l.length), S)
  | some (.slice _), .ns => some (.i .i64 0, S)
  | some (.slice _), .sz _ => some (.i .i64 0, S)
  | some (.slice _), .sl _ _ n _ => some (.i .i64 (Int.ofNat n), S)
  | some (.array n _), _ => some (.i .i64 (Int.ofNat n), S)
  | some (.map _ _), .nm => some (.i .i64 0, S)
  | some (.map _ _), .m b => match S.H.get b with
    | some (.map es _) => some (.i .i64 (Int.ofNat es.length), S.saw b)
    | _ => none
  | _, _ => none

/-- What an append reads: the cells of its second operand. -/
def srcCells (S : St) (z : Nat) : SV → Option (Nat × List SV × St)
  | .s l => match Nat.beq z 1 with
    | true => some (l.length, toCells l, S)
    | false => none
  | .ns => some (0, [], S)
  | .sz _ => some (0, [], S)
  | .sl b o n _ => match rdCells S b o (n * z) with
    | some l => some (n, l, S.saw b)
    | none => none
  | _ => none
def addCells (P : Program) (S : St) (tx e : TypeId) (z : Nat) (x : SV) : Option (Nat × List SV × St) :=
  match P.underlying tx with
  | some (.int _) => match x, zeroT P e with
    | .i _ (.ofNat n), some zc => match Nat.ble n 1048576 && Nat.beq zc.length z && Nat.blt 0 z with
      | true => some (n, repZ zc n, S)
      | false => none
    | _, _ => none
  | some _ => srcCells S z x
  | none => none
def zFits (P : Program) (e : TypeId) (z : Nat) : Bool :=
  match zeroT P e with
  | some zc => Nat.beq zc.length z && Nat.blt 0 z
  | none => false
def apNew (k : Bool) (S : St) (n : Nat) (new : List SV) (e : TypeId) : Option (SV × St) :=
  match k with
  | true => some (.sl S.c 0 n none, S.new (.cells new e))
  | false => none
def apPut (r : Option St) (b o n : Nat) (c : Option Nat) : Option (SV × St) :=
  match r with
  | some S => some (.sl b o n c, S.saw b)
  | none => none
def apGrow (x : Option LB) (S : St) (b o k n : Nat) (new : List SV) (e : TypeId) : Option (SV × St) :=
  match x with
  | some (.cells all e0) => match Nat.beq o 0 && Nat.beq e0 e with
    | true => some (.sl S.c 0 n none, (S.wr b none).new (.cells (all.take k ++ new) e))
    | false => none
  | _ => none
def apSl (old : List SV) (b o len : Nat) (cap : Option Nat) (n : Nat) (new : List SV) (e : TypeId) (z ng : Nat) (S : St) : Option (SV × St) :=
  match n with
  | 0 => some (.sl b o len cap, S.saw b)
  | n + 1 => match cap with
    | some c => match Nat.ble (len + (n + 1)) c with
      | true => apPut (wrCells ng S b (o + len * z) new) b o (len + (n + 1)) (some c)
      | false => apNew (allOne old) (S.saw b) (len + (n + 1)) (old ++ new) e
    | none => apGrow (S.H.get b) S b o (len * z) (len + (n + 1)) new e
def apS (s : SV) (n : Nat) (new : List SV) (e : TypeId) (z ng : Nat) (S : St) : Option (SV × St) :=
  match s with
  | .ns => match n with
    | 0 => some (.ns, S)
    | n + 1 => apNew (Nat.ble n 1048576) S (n + 1) new e
  | .sz c => match n with
    | 0 => some (.sz c, S)
    | n + 1 => match c with
      | some 0 => apNew (Nat.ble n 1048576) S (n + 1) new e
      | _ => none
  | .sl b o len cap => match Nat.ble (len + n) 1048576 && Nat.ble ng b with
    | true => match rdCells S b o (len * z) with
      | some old => apSl old b o len cap n new e z ng S
      | none => none
    | false => none
  | _ => none
def apOk (r : Option (Nat × List SV × St)) (P : Program) (s : SV) (e : TypeId) (z ng : Nat) (info : TypeInfo) : Option (SV × St) :=
  match r with
  | some (n, new, S) => match allOne new && Nat.ble info.bytes 1024 && zFits P e z with
    | true => apS s n new e z ng S
    | false => none
  | none => none
def apI (info : Option TypeInfo) (P : Program) (S : St) (tx e : TypeId) (z ng : Nat) (s x : SV) : Option (SV × St) :=
  match info with
  | some info => apOk (addCells P S tx e z x) P s e z ng info
  | none => none
def apE (ez : Option (TypeId × Nat)) (P : Program) (ng : Nat) (S : St) (tx : TypeId) (s x : SV) : Option (SV × St) :=
  match ez with
  | some (e, z) => apI (P.info? e) P S tx e z ng s x
  | none => none
def evAppend (P : Program) (ng : Nat) (S : St) (ts : List TypeId) (s x : SV) : Option (SV × St) :=
  match ts with
  | [ts, tx] => apE (elemT P ts) P ng S tx s x
  | _ => none
def cpPut (r : Option St) (n : Nat) : Option (SV × St) :=
  match r with
  | some S => some (.i .i64 (Int.ofNat n), S)
  | none => none
def cpTo (r : Option (Nat × List SV × St)) (ng b o n z : Nat) : Option (SV × St) :=
  match r with
  | some (k, l, S) => cpPut (wrCells ng S b o (l.take (minN k n * z))) (minN k n)
  | none => none
def evCopy (P : Program) (ng : Nat) (S : St) (t : TypeId) (d x : SV) : Option (SV × St) :=
  match elemT P t with
  | some (e, z) => match d with
    | .sl b o n _ => cpTo (srcCells S z x) ng b o n z
    | _ => none
  | none => none
def evMinL (mx : Bool) (k : IntKind) : Int → List SV → Option SV
  | a, [] => some (.i k a)
  | a, .i k' b :: l => match eqK k k' with
    | true => match mx with
      | true => evMinL mx k (match leI b a with | true => a | false => b) l
      | false => evMinL mx k (match leI a b with | true => a | false => b) l
    | false => none
  | _, _ => none
def evMin (mx : Bool) : List SV → Option SV
  | .i k a :: l => evMinL mx k a l
  | _ => none

/-- Maps: keys that are numbers, texts or rows of numbers. -/
def findE (P : Program) (t : TypeId) (k : SV) : List (SV × SV × Nat) → Nat → Option (Option (Nat × SV))
  | [], _ => some none
  | e :: es, i => match eqV P 40 t k e.1 with
    | some true => some (some (i, e.2.1))
    | some false => findE P t k es (i + 1)
    | none => none
def allInts : List SV → Bool
  | [] => true
  | .i _ _ :: l => allInts l
  | _ => false
def keyOk (P : Program) (t : TypeId) (k : SV) : Bool :=
  match P.underlying t, k with
  | some (.int _), .i _ _ => true
  | some .string, .s _ => true
  | some (.array n e), .agg l => allInts l && Nat.beq l.length n && (match P.underlying e with | some (.int _) => true | _ => false) && (match sizeT P e with | some 1 => true | _ => false)
  | _, _ => false
/-- A type's nought has the form that the type has. -/
def zeroFit (P : Program) (t : TypeId) : Bool :=
  match P.info? t, aggT P t with
  | some i, some ag => match i.zero with
    | some (.agg _) => ag
    | some _ => not ag
    | none => false
  | _, _ => false
def zvOf (ag : Bool) (z : List SV) : Option SV := match ag with | true => some (.agg z) | false => (match z with | [v] => some v | _ => none)
def okP (ok : Bool) (v : SV) (b : Bool) : SV := match ok with | true => .tup [v, .b b] | false => v
def evLookup (P : Program) (S : St) (t : TypeId) (x k : SV) (ok : Bool) : Option (SV × St) :=
  match P.underlying t with
  | some (.map kt et) => match keyOk P kt k, zeroT P et, aggT P et with
    | true, some z, some ag =>
      match zeroFit P et with
      | false => none
      | true => match x with
        | .nm => match zvOf ag z with
          | some zv => some (okP ok zv false, S)
          | none => none
        | .m b => match S.H.get b with
          | some (.map es _) => match findE P kt k es 0 with
            | some (some (_, v)) => some (okP ok v true, S.saw b)
            | some none => match zvOf ag z with
              | some zv => some (okP ok zv false, S.saw b)
              | none => none
            | none => none
          | _ => none
        | _ => none
    | _, _, _ => none
  | _ => none
def evMapSet (P : Program) (ng : Nat) (S : St) (t : TypeId) (x k v : SV) : Option St :=
  match P.underlying t with
  | some (.map kt _) => match keyOk P kt k, x with
    | true, .m b => match S.H.get b with
      | some (.map es c) => match Nat.ble ng b, findE P kt k es 0 with
        | true, some none => some (S.wr b (some (.map (es ++ [(k, v, c)]) (c + 1))))
        | _, _ => none
      | _ => none
    | _, _ => none
  | _ => none
def decL (l : List Nat) (i : Nat) : Nat × Nat := Utf8.decode ⟨(l.map UInt8.ofNat).toArray⟩ i
def evNext (ng : Nat) (S : St) (x : SV) : Option (SV × St) :=
  match x with
  | .p b 0 => match S.H.get b with
    | some (.it l pos) => match Nat.ble ng b with
      | true => match Nat.blt pos l.length with
        | true => match decL l pos with
          | (c, k) => some (.tup [.b true, .i .i64 (Int.ofNat pos), .i .i32 (Int.ofNat c)], S.wr b (some (.it l (pos + k))))
        | false => some (.tup [.b false], S.saw b)
      | false => none
    | _ => none
  | _ => none

/-- What the evaluator knows of the program: its own names are those below 'ng' (the package's variables); functions whose answers are known beforehand. -/
structure Env where
  P : Program
  ng : Nat
  /-- answers that hang on the arguments alone -/
  pure : FuncId → List SV → Option SV
  /-- answers that hang on a list of cells too (the first argument, a slice) -/
  hasOver : FuncId → Bool
  over : FuncId → List SV → List SV → Option SV

abbrev CallF := FuncId → List SV → St → Option (SV × St)
def pairS : Option SV → St → Option (SV × St)
  | some v, S => some (v, S)
  | none, _ => none
def undS : Option St → Option (SV × St)
  | some S => some (.und, S)
  | none => none
def evPick : Option SV → St → Operand → Operand → Option (SV × St)
  | some (.b true), S, a, _ => pairS (S.opd a) S
  | some (.b false), S, _, b => pairS (S.opd b) S
  | _, _, _, _ => none
def evAlloc : Option (List SV) → St → TypeId → Option (SV × St)
  | some z, S, t => some (.p S.c 0, S.new (.cells z t))
  | none, _, _ => none
def boxK : Bool → SV → St → TypeId → Option (SV × St)
  | true, v, S, t => some (.p S.c 0, S.new (.cells v.cells t))
  | false, _, _, _ => none
def evBox : Option SV → St → TypeId → Option (SV × St)
  | some v, S, t => boxK (allOne v.cells) v S t
  | none, _, _ => none
def aggP : Option (List SV) → St → Option (SV × St)
  | some cs, S => some (.agg cs, S)
  | none, _ => none
def buildF : Option (List (Nat × Nat)) → List SV → List (Nat × SV) → St → Option (SV × St)
  | some pl, z, vs, S => aggP (evFill (pl[·]?) z vs) S
  | none, _, _, _ => none
def buildA : Option Nat → List SV → List (Nat × SV) → St → Option (SV × St)
  | some n, z, vs, S => aggP (evFill (fun i => some (i * n, n)) z vs) S
  | none, _, _, _ => none
def buildT : Option TypeDesc → Program → List SV → List (Nat × SV) → St → Option (SV × St)
  | some (.struct fs), P, z, vs, S => buildF (places P fs.toList) z vs S
  | some (.array _ e), P, z, vs, S => buildA (sizeT P e) z vs S
  | _, _, _, _, _ => none
def buildK : Bool → Program → TypeId → List SV → List (Nat × SV) → St → Option (SV × St)
  | true, P, t, z, vs, S => buildT (P.underlying t) P z vs S
  | false, _, _, _, _, _ => none
def evBuild : Option (List (Nat × SV)) → Option (List SV) → Program → TypeId → St → Option (SV × St)
  | some vs, some z, P, t, S => buildK (allCells vs) P t z vs S
  | _, _, _, _, _ => none
def bsR : Option (List SV) → TypeId → Nat → St → Option (SV × St)
  | some cs, e, len, S => some (.sl S.c 0 len (some len), S.new (.cells cs e))
  | none, _, _, _ => none
def bsK : Bool → TypeId → Nat → Nat → List SV → List (Nat × SV) → St → Option (SV × St)
  | true, e, n, len, z, vs, S => bsR (evFill (fun i => some (i * n, n)) (repZ z len) vs) e len S
  | false, _, _, _, _, _, _ => none
def bsZ : Option (List SV) → TypeId → Nat → Nat → List (Nat × SV) → St → Option (SV × St)
  | some z, e, n, len, vs, S => bsK (allCells vs && (Nat.ble (len * n) 16777216 && Nat.beq z.length n && Nat.blt 0 n)) e n len z vs S
  | none, _, _, _, _, _ => none
def evBuildSlice : Option (List (Nat × SV)) → Option (TypeId × Nat) → Program → Nat → St → Option (SV × St)
  | some vs, some (e, n), P, len, S => bsZ (zeroT P e) e n len vs S
  | _, _, _, _, _ => none
def loadO : Option SV → Program → St → TypeId → Option (SV × St)
  | some a, P, S, t => evLoad a P S t
  | none, _, _, _ => none
def storeO : Option SV → Option SV → Program → Nat → St → TypeId → Option (SV × St)
  | some a, some v, P, ng, S, t => undS (evStore a P ng S t v)
  | _, _, _, _, _, _ => none
def nilO : Option SV → St → Option (SV × St)
  | some (.p b o), S => some (.p b o, S)
  | some (.f f x y), S => some (.f f x y, S)
  | _, _ => none
def binO : Option SV → Option SV → Program → BinOp → TypeId → St → Option (SV × St)
  | some a, some b, P, op, t, S => pairS (evBin a b P op t) S
  | _, _, _, _, _, _ => none
def unO : Option SV → UnOp → St → Option (SV × St)
  | some a, op, S => pairS (evUn op a) S
  | none, _, _ => none
def convO : Option SV → Program → St → TypeId → TypeId → Option (SV × St)
  | some a, P, S, src, dst => evConv P S src dst a
  | none, _, _, _, _ => none
def funcO : Option (List SV) → Option (List SV) → Fn → St → Option (SV × St)
  | some a, some b, .func f, S => some (.f f a b, S)
  | _, _, _, _ => none
def msK : Bool → TypeId → Nat → Nat → List SV → St → Option (SV × St)
  | true, e, l, c, z, S => some (.sl S.c 0 l (some c), S.new (.cells (repZ z c) e))
  | false, _, _, _, _, _ => none
def msT : Option (List SV) → Option TypeInfo → TypeId → Nat → Nat → Nat → St → Option (SV × St)
  | some z, some info, e, n, l, c, S => msK (Nat.beq z.length n && Nat.blt 0 n && Nat.ble c 1048576 && Nat.ble l c && Nat.ble info.bytes 1024) e l c z S
  | _, _, _, _, _, _, _ => none
def msO : Option SV → Option SV → Option (TypeId × Nat) → Program → St → Option (SV × St)
  | some (.i _ (.ofNat l)), some (.i _ (.ofNat c)), some (e, n), P, S => msT (zeroT P e) (P.info? e) e n l c S
  | _, _, _, _, _ => none
def sliceO : Option SV → Option (Option SV) → Option (Option SV) → Option (Option SV) → Program → TypeId → St → Option (SV × St)
  | some a, some lo, some hi, some mx, P, t, S => pairS (evSlice P t a lo hi mx) S
  | _, _, _, _, _, _, _ => none
def fieldAO : Option SV → Program → TypeId → Nat → St → Option (SV × St)
  | some a, P, t, k, S => pairS (evFieldAddr (P.underlying t) a P k) S
  | none, _, _, _, _ => none
def fieldO : Option SV → Program → TypeId → Nat → St → Option (SV × St)
  | some a, P, t, k, S => pairS (evField (P.underlying t) a P k) S
  | none, _, _, _, _ => none
def indexAO : Option SV → Option SV → Program → TypeId → St → Option (SV × St)
  | some a, some i, P, t, S => pairS (evIndexAddr i a P t) S
  | _, _, _, _, _ => none
def indexO : Option SV → Option SV → Program → TypeId → St → Option (SV × St)
  | some a, some i, P, t, S => pairS (evIndex i a P t) S
  | _, _, _, _, _ => none
def lookO : Option SV → Option SV → Program → TypeId → Bool → St → Option (SV × St)
  | some a, some k, P, t, ok, S => evLookup P S t a k ok
  | _, _, _, _, _, _ => none
def mapO : Option SV → Option SV → Option SV → Program → Nat → TypeId → St → Option (SV × St)
  | some a, some k, some v, P, ng, t, S => undS (evMapSet P ng S t a k v)
  | _, _, _, _, _, _, _ => none
def rangeO : Option SV → Option TypeDesc → St → Option (SV × St)
  | some (.s l), some .string, S => some (.p S.c 0, S.new (.it l 0))
  | _, _, _ => none
def nextO : Option SV → Nat → St → Option (SV × St)
  | some a, ng, S => evNext ng S a
  | none, _, _ => none
def extrO : Option SV → Nat → St → Option (SV × St)
  | some (.tup l), k, S => pairS l[k]? S
  | _, _, _ => none
def builtinO : Builtin → Option (List SV) → List TypeId → Env → St → Option (SV × St)
  | .len, some [x], t :: _, E, S => evLen E.P S t x
  | .append, some [x, y], ts, E, S => evAppend E.P E.ng S ts x y
  | .copy, some [x, y], t :: _, E, S => evCopy E.P E.ng S t x y
  | .min, some l, _, _, S => pairS (evMin false l) S
  | .max, some l, _, _, S => pairS (evMin true l) S
  | _, _, _, _, _ => none
def callO : Option SV → Option (List SV) → CallF → St → Option (SV × St)
  | some (.f f a b), some args, C, S => C f (a ++ (args ++ b)) S
  | _, _, _, _ => none
def evCallee : Callee → Call → Env → CallF → St → Option (SV × St)
  | .builtin bi, c, E, _, S => builtinO bi (S.opds c.args.toList) c.argTypes.toList E S
  | .value f, c, _, C, S => callO (S.opd f) (S.opds c.args.toList) C S
  | _, _, _, _, _ => none

def evOp : Op → Env → CallF → St → Option (SV × St)
  | .move x, _, _, S => pairS (S.opd x) S
  | .assign x, _, _, S => pairS (S.opd x) S
  | .pick c a b, _, _, S => evPick (S.opd c) S a b
  | .alloc t, E, _, S => evAlloc (zeroT E.P t) S t
  | .box t x, _, _, S => evBox (S.opd x) S t
  | .build t ps, E, _, S => evBuild (evParts S ps.toList) (zeroT E.P t) E.P t S
  | .buildSlice t len ps, E, _, S => evBuildSlice (evParts S ps.toList) (elemT E.P t) E.P len S
  | .load t a, E, _, S => loadO (S.opd a) E.P S t
  | .store t a x, E, _, S => storeO (S.opd a) (S.opd x) E.P E.ng S t
  | .nilCheck x, _, _, S => nilO (S.opd x) S
  | .binOp op t x y _, E, _, S => binO (S.opd x) (S.opd y) E.P op t S
  | .unOp op _ x, _, _, S => unO (S.opd x) op S
  | .convert src dst x, E, _, S => convO (S.opd x) E.P S src dst
  | .makeFunc f fi ca, _, _, S => funcO (S.opds fi.toList) (S.opds ca.toList) f S
  | .makeMap _ none, _, _, S => some (.m S.c, S.new (.map [] 0))
  | .makeSlice t l c, E, _, S => msO (S.opd l) (S.opd c) (elemT E.P t) E.P S
  | .slice t x lo hi mx, E, _, S => sliceO (S.opd x) (S.opd? lo) (S.opd? hi) (S.opd? mx) E.P t S
  | .fieldAddr t x k, E, _, S => fieldAO (S.opd x) E.P t k S
  | .field t x k, E, _, S => fieldO (S.opd x) E.P t k S
  | .indexAddr t x y, E, _, S => indexAO (S.opd x) (S.opd y) E.P t S
  | .index t x y, E, _, S => indexO (S.opd x) (S.opd y) E.P t S
  | .lookup t x y ok, E, _, S => lookO (S.opd x) (S.opd y) E.P t ok S
  | .mapUpdate t x y z, E, _, S => mapO (S.opd x) (S.opd y) (S.opd z) E.P E.ng t S
  | .range t x, E, _, S => rangeO (S.opd x) (E.P.underlying t) S
  | .next x true, E, _, S => nextO (S.opd x) E.ng S
  | .extract x k, _, _, S => extrO (S.opd x) k S
  | .call c, E, C, S => evCallee c.callee c E C S
  | _, _, _, _ => none

/-- Is an operation wanted? -/
def wantV : Option SV → Bool → Option Bool
  | some (.b b), want => some (b == want)
  | some .und, _ => some false
  | _, _ => none
def wantT : Option Tmp → St → Bool → Option Bool
  | some t, S, want => wantV (S.T.get t) want
  | none, _, _ => none
def evWant : Option (Nat × Bool) → Array Oper → St → Option Bool
  | none, _, _ => some true
  | some (j, want), ops, S => wantT ((ops[j]?).bind (·.dst)) S want
def oneK : Option Bool → Op → Env → CallF → St → Option (SV × St)
  | some true, o, E, C, S => evOp o E C S
  | some false, _, _, _, S => some (.und, S)
  | none, _, _, _, _ => none
def evOne (E : Env) (C : CallF) (ops : Array Oper) (S : St) (o : Oper) : Option (SV × St) := oneK (evWant o.guard ops S) o.op E C S
def putR : Option (SV × St) → Option Tmp → Option St
  | some (v, S), d => S.put d v
  | none, _ => none
def contS : Option St → (St → Option St) → Option St
  | some S, k => k S
  | none, _ => none
def evList : List Oper → Env → CallF → Array Oper → St → Option St
  | [], _, _, _, S => some S
  | o :: l, E, C, ops, S => contS (putR (evOne E C ops S o) o.dst) (evList l E C ops)

/-- The places of a region in bits: what stands before each operation. -/
def befE (acc : List Nat) : List Edge → Nat → Nat
  | [], m => m
  | e :: es, m => match Region.binds .any e with
    | true => befE acc es (Nat.lor m (Nat.lor (Nat.shiftLeft 1 e.on) (acc.getD e.on 0)))
    | false => befE acc es m
def befs : List Oper → List Nat → List Nat
  | [], acc => acc
  | o :: l, acc => befs l (acc ++ [befE acc o.after.toList 0])
def edgesOk : List Edge → Nat → Bool
  | [], _ => true
  | e :: es, i => match Region.binds .any e with
    | true => Nat.blt e.on i && edgesOk es i
    | false => edgesOk es i
/-- Two operations that don't wait for one another are apart. -/
def apartAll (ops : Array Oper) (x : Oper) (i : Nat) : List Oper → List Nat → Bool
  | [], _ => true
  | y :: l, bs => match bs with
    | [] => false
    | m :: bs => (Nat.testBit m i || Oper.apart ops x y) && apartAll ops x i l bs
def regOk (ops : Array Oper) : Nat → List Oper → List Nat → Bool
  | _, [], _ => true
  | i, x :: l, bs => edgesOk x.after.toList i && apartAll ops x i l (bs.drop 1) && regOk ops (i + 1) l (bs.drop 1)

structure Tr where
  rr : Nat
  ww : Nat
/-- Is the operation with these marks apart in memory from the earlier ones, or does it wait for them? -/
def memOk (m : Nat) (t : Tr) : Nat → List Tr → Bool
  | _, [] => true
  | i, u :: l => (Nat.testBit m i || (Nat.beq (Nat.land u.ww t.rr) 0 && Nat.beq (Nat.land t.ww u.rr) 0)) && memOk m t (i + 1) l
/-- The operations one by one, each with marks of its own; 'ms' what stands before each. -/
def trOf (S S1 : St) : Tr := ⟨Nat.lor S1.r S1.w, Nat.lor S1.w (Nat.sub (Nat.shiftLeft 1 S1.c) (Nat.shiftLeft 1 S.c))⟩
def drawM : Bool → St → St → SV → Option Tmp → Option St
  | true, S, S1, v, d => { S1 with r := Nat.lor S.r S1.r, w := Nat.lor S.w S1.w }.put d v
  | false, _, _, _, _ => none
def drawK : Option (SV × St) → St → Option Tmp → Nat → List Tr → Option (St × Tr)
  | some (v, S1), S, d, m, tr => match drawM (memOk m (trOf S S1) 0 tr) S S1 v d with
    | some S2 => some (S2, trOf S S1)
    | none => none
  | none, _, _, _, _ => none
def contD : Option (St × Tr) → (Tr → St → Option St) → Option St
  | some (S, t), k => k t S
  | none, _ => none
def evDraw : List Oper → List Nat → Env → CallF → Array Oper → List Tr → St → Option St
  | [], _, _, _, _, _, S => some S
  | o :: l, m :: ms, E, C, ops, tr, S => contD (drawK (evOne E C ops { S with r := 0, w := 0 } o) S o.dst m tr) (fun t => evDraw l ms E C ops (tr ++ [t]))
  | _ :: _, [], _, _, _, _, _ => none

inductive Ex where
  | normal
  | exit (id : Nat)
  | ret

abbrev CodeF := Code → St → Option (Ex × St)
def normS : Option St → Option (Ex × St)
  | some S => some (.normal, S)
  | none => none
def seqK : Option (Ex × St) → CodeF → Code → Option (Ex × St)
  | some (.normal, S), R, b => R b S
  | r, _, _ => r
def condK : Option SV → CodeF → Code → Code → St → Option (Ex × St)
  | some (.b true), R, a, _, S => R a S
  | some (.b false), R, _, b, S => R b S
  | _, _, _, _, _ => none
def exitK : Bool → Nat → St → Option (Ex × St)
  | true, _, S => some (.normal, S)
  | false, j, S => some (.exit j, S)
def blockK : Option (Ex × St) → Nat → Option (Ex × St)
  | some (.exit j, S), id => exitK (Nat.beq j id) j S
  | r, _ => r
def drawB : Bool → List Nat → Env → CallF → Array Oper → St → Option (Ex × St)
  | true, bs, E, C, ops, S => normS (evDraw ops.toList bs E C ops [] S)
  | false, _, _, _, _, _ => none
/-- One layer of the evaluator, over the next one. -/
def stepC : Code → Env → CallF → CodeF → St → Option (Ex × St)
  | .skip, _, _, _, S => some (.normal, S)
  | .label _, _, _, _, S => some (.normal, S)
  | .ret, _, _, _, S => some (.ret, S)
  | .exit id, _, _, _, S => some (.exit id, S)
  | .seq a b, _, _, R, S => seqK (R a S) R b
  | .cond x a b, _, _, R, S => condK (S.opd x) R a b S
  | .block id a, _, _, R, S => blockK (R a S) id
  | .loop a, _, _, R, S => seqK (R a S) R (.loop a)
  | .region _ ops false, E, C, _, S => normS (evList ops.toList E C ops S)
  | .region _ ops true, E, C, _, S => drawB (regOk ops 0 ops.toList (befs ops.toList [])) (befs ops.toList []) E C ops S
  | _, _, _, _, _ => none

def initT : List SV → Nat → TR SV → TR SV
  | [], _, t => t
  | v :: l, i, t => initT l (i + 1) (t.set (i + 1) i (some v))
def contR : Option (SV × St) → (St → Option (List SV × St)) → Option (List SV × St)
  | some (v, S), k => match k S with
    | some (vs, S) => some (v :: vs, S)
    | none => none
  | none, _ => none
def evRes : List ResultVar → Program → St → Option (List SV × St)
  | [], _, S => some ([], S)
  | .tmp t :: l, P, S => contR (pairS (S.T.get t) S) (evRes l P)
  | .cell a t :: l, P, S => contR (loadO (S.T.get a) P S t) (evRes l P)
def one? : List SV → SV
  | [v] => v
  | l => .tup l
def overK : Option (List SV) → Env → FuncId → List SV → Nat → St → Option (SV × St)
  | some cs, E, f, rest, b, S => pairS (E.over f cs rest) (S.saw b)
  | none, _, _, _, _, _ => none
/-- An answer that is known of the arguments, and of a list of cells. -/
def known : List SV → Env → FuncId → St → Option (SV × St)
  | .sl b o n _ :: rest, E, f, S => match E.hasOver f with
    | true => overK (rdCells S b o n) E f rest b S
    | false => none
  | .ns :: rest, E, f, S => match E.hasOver f with
    | true => pairS (E.over f [] rest) S
    | false => none
  | _, _, _, _ => none
def finK : Option (List SV × St) → St → Option (SV × St)
  | some (vs, S2), S => some (one? vs, ⟨S.T, S.nt, S2.H, S2.c, S2.r, S2.w, S.ng⟩)
  | none, _ => none
def exitR : Option (Ex × St) → Env → Array ResultVar → St → Option (SV × St)
  | some (.normal, S1), E, rs, S => finK (evRes rs.toList E.P S1) S
  | some (.ret, S1), E, rs, S => finK (evRes rs.toList E.P S1) S
  | _, _, _, _ => none
def bodyK : Option Code → Func → Env → CodeF → List SV → St → Option (SV × St)
  | some c, fn, E, R, args, S => match Nat.ble args.length fn.ntmps with
    | true => exitR (R c ⟨initT args 0 .e, fn.ntmps, S.H, S.c, S.r, S.w, E.ng⟩) E fn.results S
    | false => none
  | none, _, _, _, _, _ => none
def funcK : Option Func → Env → CodeF → List SV → St → Option (SV × St)
  | some fn, E, R, args, S => bodyK fn.body fn E R args S
  | none, _, _, _, _ => none
def knownK : Option (SV × St) → Env → CodeF → FuncId → List SV → St → Option (SV × St)
  | some r, _, _, _, _, _ => some r
  | none, E, R, f, args, S => funcK E.P.funcs[f]? E R args S
def pureK : Option SV → Env → CodeF → FuncId → List SV → St → Option (SV × St)
  | some v, _, _, _, _, S => some (v, S)
  | none, E, R, f, args, S => knownK (known args E f S) E R f args S
/-- A call: of a function with a body; or one whose answer is known. -/
def evCall (E : Env) (R : CodeF) (f : FuncId) (args : List SV) (S : St) : Option (SV × St) := pureK (E.pure f args) E R f args S

noncomputable def ev (E : Env) (n : Nat) : Code → St → Option (Ex × St) :=
  Nat.rec (fun _ _ => none) (fun _ R c S => stepC c E (evCall E R) R S) n

/-- A call at a start: the package's variables, no memory else. -/
noncomputable def evTop (E : Env) (n : Nat) (G : TR LB) (f : FuncId) (args : List SV) : Option SV :=
  match funcK E.P.funcs[f]? E (ev E n) args ⟨.e, 0, G, E.ng, 0, 0, E.ng⟩ with
  | some (v, _) => some v
  | none => none
def isTrue : Option SV → Bool
  | some (.b true) => true
  | _ => false

end Go.Proofs.YtndpcphmndfajaaGreatDoor
