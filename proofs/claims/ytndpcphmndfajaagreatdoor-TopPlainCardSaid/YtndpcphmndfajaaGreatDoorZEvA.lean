/- Lists and memory of the evaluator once more, by recursors alone: the kernel runs them faster. | Operations of the evaluator once more, by recursors alone: appends, texts, maps. -/
import Derived.Test.YtndpcphmndfajaaGreatDoorZEv1

namespace Go.Proofs.YtndpcphmndfajaaGreatDoor
set_option linter.unusedVariables false

/-- A key's way in a tree: the kernel keeps it. -/
noncomputable def pathF : Nat → Nat → List Bool :=
  @Nat.rec (fun _ => Nat → List Bool) (fun _ => []) (fun _ ih k => @Nat.rec (fun _ => List Bool) [] (fun k _ => Nat.beq (Nat.mod k 2) 0 :: ih (Nat.div k 2)) k)
noncomputable def getP {α : Type} : TR α → List Bool → Option α :=
  @TR.rec α (fun _ => List Bool → Option α) (fun _ => none)
    (fun _ v _ ihl ihr p => @List.rec Bool (fun _ => Option α) v (fun b p _ => @Bool.rec (fun _ => Option α) (ihr p) (ihl p) b) p)
noncomputable def getF {α : Type} (t : TR α) (k : Nat) : Option α := getP t (pathF k k)
theorem getP_eq {α : Type} : ∀ (t : TR α) (f k : Nat), k ≤ f → getP t (pathF f k) = t.get k
  | .e, f, k, _ => by cases f <;> cases k <;> rfl
  | .n l v r, f, 0, _ => by cases f <;> rfl
  | .n l v r, 0, k + 1, h => absurd h (by omega)
  | .n l v r, f + 1, k + 1, h => by
    show @Bool.rec (fun _ => Option α) (getP r (pathF f (Nat.div k 2))) (getP l (pathF f (Nat.div k 2))) (Nat.beq (Nat.mod k 2) 0) = _
    have hk : Nat.div k 2 ≤ f := by show k / 2 ≤ f; omega
    rw [getP_eq l f _ hk, getP_eq r f _ hk]
    simp only [TR.get]
    cases Nat.beq (Nat.mod k 2) 0 <;> rfl
theorem getF_eq {α : Type} (t : TR α) (k : Nat) : getF t k = t.get k := getP_eq t k k (Nat.le_refl _)
noncomputable def setP {α : Type} : List Bool → TR α → Option α → TR α :=
  @List.rec Bool (fun _ => TR α → Option α → TR α) (fun t x => @TR.rec α (fun _ => TR α) (.n .e x .e) (fun l _ r _ _ => .n l x r) t)
    (fun b _ ih t x => @TR.rec α (fun _ => TR α) (@Bool.rec (fun _ => TR α) (.n .e none (ih .e x)) (.n (ih .e x) none .e) b)
      (fun l v r _ _ => @Bool.rec (fun _ => TR α) (.n l v (ih r x)) (.n (ih l x) v r) b) t)
noncomputable def setF {α : Type} (t : TR α) (k : Nat) (x : Option α) : TR α := setP (pathF k k) t x
theorem setP_eq {α : Type} : ∀ (f g : Nat) (t : TR α) (k : Nat) (x : Option α), k ≤ f → k < g → setP (pathF f k) t x = TR.set g t k x
  | f, 0, t, k, x, _, h => absurd h (by omega)
  | f, g + 1, .e, 0, x, _, _ => by cases f <;> rfl
  | f, g + 1, .n l v r, 0, x, _, _ => by cases f <;> rfl
  | 0, g + 1, t, k + 1, x, h, _ => absurd h (by omega)
  | f + 1, g + 1, .e, k + 1, x, h, h2 => by
    show @Bool.rec (fun _ => TR α) (.n .e none (setP (pathF f (Nat.div k 2)) .e x)) (.n (setP (pathF f (Nat.div k 2)) .e x) none .e) (Nat.beq (Nat.mod k 2) 0) = _
    have hk : Nat.div k 2 ≤ f := by show k / 2 ≤ f; omega
    have hk2 : Nat.div k 2 < g := by show k / 2 < g; omega
    rw [setP_eq f g _ _ x hk hk2]
    simp only [TR.set]
    cases Nat.beq (Nat.mod k 2) 0 <;> rfl
  | f + 1, g + 1, .n l v r, k + 1, x, h, h2 => by
    show @Bool.rec (fun _ => TR α) (.n l v (setP (pathF f (Nat.div k 2)) r x)) (.n (setP (pathF f (Nat.div k 2)) l x) v r) (Nat.beq (Nat.mod k 2) 0) = _
    have hk : Nat.div k 2 ≤ f := by show k / 2 ≤ f; omega
    have hk2 : Nat.div k 2 < g := by show k / 2 < g; omega
    rw [setP_eq f g _ _ x hk hk2, setP_eq f g _ _ x hk hk2]
    simp only [TR.set]
    cases Nat.beq (Nat.mod k 2) 0 <;> rfl
theorem setF_eq {α : Type} (t : TR α) (k : Nat) (x : Option α) : setF t k x = TR.set (k + 1) t k x := setP_eq k (k + 1) t k x (Nat.le_refl _) (Nat.lt_succ_self _)

section lists
variable {α : Type}
noncomputable def lenR : List α → Nat := @List.rec α (fun _ => Nat) 0 (fun _ _ ih => Nat.succ ih)
theorem lenR_eq : ∀ l : List α, lenR l = l.length
  | [] => rfl
  | a :: l => by show Nat.succ (lenR l) = _; rw [lenR_eq l]; rfl
noncomputable def dropR (n : Nat) : List α → List α :=
  @Nat.rec (fun _ => List α → List α) (fun l => l) (fun _ ih l => @List.rec α (fun _ => List α) [] (fun _ t _ => ih t) l) n
theorem dropR_eq : ∀ (n : Nat) (l : List α), dropR n l = l.drop n
  | 0, l => rfl
  | n + 1, [] => rfl
  | n + 1, a :: l => dropR_eq n l
noncomputable def takeR (n : Nat) : List α → List α :=
  @Nat.rec (fun _ => List α → List α) (fun _ => []) (fun _ ih l => @List.rec α (fun _ => List α) [] (fun a t _ => a :: ih t) l) n
theorem takeR_eq : ∀ (n : Nat) (l : List α), takeR n l = l.take n
  | 0, l => by cases l <;> rfl
  | n + 1, [] => rfl
  | n + 1, a :: l => by show a :: takeR n l = _; rw [takeR_eq n l]; rfl
noncomputable def appR (x y : List α) : List α := @List.rec α (fun _ => List α) y (fun a _ ih => a :: ih) x
theorem appR_eq : ∀ (x y : List α), appR x y = x ++ y
  | [], y => rfl
  | a :: x, y => by show a :: appR x y = _; rw [appR_eq x y]; rfl
noncomputable def mapR {β : Type} (f : α → β) (l : List α) : List β := @List.rec α (fun _ => List β) [] (fun a _ ih => f a :: ih) l
theorem mapR_eq {β : Type} (f : α → β) : ∀ l : List α, mapR f l = l.map f
  | [] => rfl
  | a :: l => by show f a :: mapR f l = _; rw [mapR_eq f l]; rfl
/-- Are there so many? -/
noncomputable def hasR (n : Nat) : List α → Bool :=
  @Nat.rec (fun _ => List α → Bool) (fun _ => true) (fun _ ih l => @List.rec α (fun _ => Bool) false (fun _ t _ => ih t) l) n
theorem hasR_eq : ∀ (n : Nat) (l : List α), hasR n l = Nat.ble n l.length
  | 0, l => by show true = _; simp
  | n + 1, [] => rfl
  | n + 1, a :: l => by
    show hasR n l = _
    rw [hasR_eq n l]
    rfl
noncomputable def overR : List α → List α → List α := @List.rec α (fun _ => List α → List α) (fun l => l) (fun v _ ih l => v :: ih (@List.rec α (fun _ => List α) [] (fun _ t _ => t) l))
theorem overR_eq : ∀ (vs l : List α), overR vs l = vs ++ l.drop vs.length
  | [], l => rfl
  | v :: vs, [] => by show v :: overR vs [] = _; rw [overR_eq vs []]; simp
  | v :: vs, a :: l => by show v :: overR vs l = _; rw [overR_eq vs l]; rfl
noncomputable def setR (o : Nat) (vs : List α) : List α → List α := @Nat.rec (fun _ => List α → List α) (overR vs) (fun _ ih l => @List.rec α (fun _ => List α) [] (fun a t _ => a :: ih t) l) o
theorem setR_eq : ∀ (o : Nat) (vs l : List α), o + vs.length ≤ l.length → setR o vs l = l.take o ++ (vs ++ l.drop (o + vs.length))
  | 0, vs, l, _ => by show overR vs l = _; rw [overR_eq]; simp
  | o + 1, vs, [], h => by simp at h
  | o + 1, vs, a :: l, h => by
    show a :: setR o vs l = _
    rw [setR_eq o vs l (by simp only [List.length_cons] at h; omega), show o + 1 + vs.length = o + vs.length + 1 by omega]
    rfl
noncomputable def nthR (n : Nat) : List α → Option α :=
  @Nat.rec (fun _ => List α → Option α) (fun l => @List.rec α (fun _ => Option α) none (fun a _ _ => some a) l) (fun _ ih l => @List.rec α (fun _ => Option α) none (fun _ t _ => ih t) l) n
theorem nthR_eq : ∀ (n : Nat) (l : List α), nthR n l = l[n]?
  | 0, [] => rfl
  | 0, a :: l => rfl
  | n + 1, [] => rfl
  | n + 1, a :: l => by show nthR n l = _; rw [nthR_eq n l]; rfl
end lists

/-- The texts. -/
noncomputable def eqNR : List Nat → List Nat → Bool :=
  @List.rec Nat (fun _ => List Nat → Bool) (fun y => @List.rec Nat (fun _ => Bool) true (fun _ _ _ => false) y)
    (fun a _ ih y => @List.rec Nat (fun _ => Bool) false (fun b t _ => @Bool.rec (fun _ => Bool) false (ih t) (Nat.beq a b)) y)
theorem eqNR_eq : ∀ x y : List Nat, eqNR x y = eqN x y
  | [], [] => rfl
  | [], _ :: _ => rfl
  | _ :: _, [] => rfl
  | a :: x, b :: y => by
    show @Bool.rec (fun _ => Bool) false (eqNR x y) (Nat.beq a b) = _
    rw [eqNR_eq x y]
    simp only [eqN]
    cases Nat.beq a b <;> rfl
noncomputable def subR (k h : Nat) (l : List Nat) : List Nat := @Bool.rec (fun _ => List Nat) (takeR (Nat.sub h k) (dropR k l)) (dropR k l) (Nat.beq h (lenR l))
theorem subR_eq (k h : Nat) (l : List Nat) : subR k h l = (l.drop k).take (h - k) := by
  unfold subR
  rw [dropR_eq, takeR_eq, lenR_eq]
  cases hb : Nat.beq h l.length with
  | false => rfl
  | true =>
    obtain rfl : h = l.length := Nat.eq_of_beq_eq_true hb
    show l.drop k = _
    rw [← List.length_drop, List.take_length]
noncomputable def ofCellsR (l : List SV) : Option (List Nat) :=
  @List.rec SV (fun _ => Option (List Nat)) (some []) (fun v _ ih => @SV.casesOn (fun _ => Option (List Nat)) v none none (fun _ => none)
    (fun k n => @IntKind.casesOn (fun _ => Option (List Nat)) k none none none none (@Int.rec (fun _ => Option (List Nat)) (fun m => @Bool.rec (fun _ => Option (List Nat)) none (@Option.rec (List Nat) (fun _ => Option (List Nat)) none (fun r => some (m :: r)) ih) (Nat.ble (Nat.succ m) 256)) (fun _ => none) n) none none none)
    (fun _ => none) none (fun _ _ => none) none (fun _ _ _ _ => none) (fun _ => none) none (fun _ => none) none (fun _ _ _ => none) (fun _ => none) (fun _ => none)) l
theorem ofCellsR_eq : ∀ l : List SV, ofCellsR l = ofCells l
  | [] => rfl
  | v :: l => by
    have ih := ofCellsR_eq l
    cases v <;> try rfl
    case i k n =>
      cases k <;> try rfl
      case u8 =>
        cases n with
        | negSucc m => rfl
        | ofNat m =>
          show @Bool.rec (fun _ => Option (List Nat)) none (@Option.rec (List Nat) (fun _ => Option (List Nat)) none (fun r => some (m :: r)) (ofCellsR l)) (Nat.blt m 256) = _
          rw [ih]
          simp only [ofCells]
          cases Nat.blt m 256 with
          | false => rfl
          | true => cases ofCells l <;> rfl

/-- Memory. -/
noncomputable def newF (S : St) (x : LB) : St := @St.rec (fun _ => St) (fun T nt H c r w ng => ⟨T, nt, setF H c (some x), Nat.succ c, r, w, ng⟩) S
theorem newF_eq (S : St) (x : LB) : newF S x = S.new x := by cases S; unfold newF; simp only; rw [setF_eq]; rfl
noncomputable def wrSF (S : St) (b : Nat) (x : Option LB) : St := @St.rec (fun _ => St) (fun T nt H c r w ng => ⟨T, nt, setF H b x, c, r, Nat.lor w (Nat.shiftLeft 1 b), ng⟩) S
theorem wrSF_eq (S : St) (b : Nat) (x : Option LB) : wrSF S b x = S.wr b x := by cases S; unfold wrSF; simp only; rw [setF_eq]; rfl
noncomputable def sawF (S : St) (b : Nat) : St := @St.rec (fun _ => St) (fun T nt H c r w ng => ⟨T, nt, H, c, Nat.lor r (Nat.shiftLeft 1 b), w, ng⟩) S
theorem sawF_eq (S : St) (b : Nat) : sawF S b = S.saw b := by cases S; rfl
noncomputable def ctrF (S : St) : Nat := @St.rec (fun _ => Nat) (fun _ _ _ c _ _ _ => c) S
theorem ctrF_eq (S : St) : ctrF S = S.c := by cases S; rfl
noncomputable def okR (o : Nat) (l : List SV) (n : Nat) : Bool :=
  @Nat.rec (fun _ => Bool) (hasR o l) (fun n _ => @Option.rec SV (fun _ => Bool) false (fun _ => true) (nthR (Nat.add o n) l)) n
theorem okR_eq (o : Nat) (l : List SV) (n : Nat) : okR o l n = Nat.ble (Nat.add o n) l.length := by
  cases n with
  | zero => exact hasR_eq _ _
  | succ n =>
    show @Option.rec SV (fun _ => Bool) false (fun _ => true) (nthR (Nat.add o n) l) = Nat.blt (o + n) l.length
    rw [nthR_eq]
    show @Option.rec SV (fun _ => Bool) false (fun _ => true) l[o + n]? = _
    by_cases h : o + n < l.length
    · rw [List.getElem?_eq_getElem h]; exact (by rw [eq_comm, Nat.blt_eq]; exact h)
    · rw [List.getElem?_eq_none (by omega)]; exact (by rw [eq_comm, Bool.eq_false_iff, ne_eq, Nat.blt_eq]; exact h)
noncomputable def rdL (o n : Nat) (x : LB) : Option (List SV) :=
  @LB.rec (fun _ => Nat → Nat → Option (List SV)) (fun l _ o n => @Bool.rec (fun _ => Nat → Nat → List SV → Option (List SV)) (fun _ _ _ => none) (fun o n l => some (takeR n (dropR o l))) (okR o l n) o n l) (fun _ _ _ _ => none) (fun _ _ _ _ => none) x o n
noncomputable def rdF (S : St) (b o n : Nat) : Option (List SV) := @Option.rec LB (fun _ => Option (List SV)) none (rdL o n) (getF S.H b)
theorem rdF_eq (S : St) (b o n : Nat) : rdF S b o n = rdCells S b o n := by
  unfold rdF rdCells
  rw [getF_eq]
  cases S.H.get b with
  | none => rfl
  | some x =>
    cases x <;> try rfl
    case cells l e =>
      show @Bool.rec (fun _ => Nat → Nat → List SV → Option (List SV)) (fun _ _ _ => none) (fun o n l => some (takeR n (dropR o l))) (okR o l n) o n l = rdK (Nat.ble (Nat.add o n) l.length) l o n
      rw [okR_eq]
      cases Nat.ble (Nat.add o n) l.length with
      | false => rfl
      | true => show some (takeR n (dropR o l)) = _; rw [takeR_eq, dropR_eq]; rfl
noncomputable def rd1L (o : Nat) (x : LB) : Option SV := @LB.rec (fun _ => Nat → Option SV) (fun l _ o => nthR o l) (fun _ _ _ => none) (fun _ _ _ => none) x o
noncomputable def rd1F (S : St) (b o : Nat) : Option SV := @Option.rec LB (fun _ => Option SV) none (rd1L o) (getF S.H b)
theorem rd1F_eq (S : St) (b o : Nat) (S' : St) : @Option.rec SV (fun _ => Option (SV × St)) none (fun v => some (v, S')) (rd1F S b o) = oneR (rdCells S b o 1) S' := by
  unfold rd1F rdCells
  rw [getF_eq]
  cases S.H.get b with
  | none => rfl
  | some x =>
    cases x <;> try rfl
    case cells l e =>
      show @Option.rec SV (fun _ => Option (SV × St)) none (fun v => some (v, S')) (nthR o l) = oneR (rdK (Nat.ble (Nat.add o 1) l.length) l o 1) S'
      rw [nthR_eq]
      by_cases h : o < l.length
      · rw [List.getElem?_eq_getElem h, show Nat.ble (Nat.add o 1) l.length = true from (by rw [Nat.ble_eq]; exact h)]
        simp only [rdK]
        rw [List.drop_eq_getElem_cons h]
        rfl
      · rw [List.getElem?_eq_none (by omega), show Nat.ble (Nat.add o 1) l.length = false by rw [Bool.eq_false_iff, ne_eq, Nat.ble_eq]; exact h]
        rfl
noncomputable def one1 : SV → Bool :=
  @SV.rec (fun _ => Bool) (fun _ => PUnit) (true)
    (false) (fun _ => true) (fun _ _ => true) (fun _ => true) (true) (fun _ _ => true) (true) (fun _ _ _ _ => true) (fun _ => true) (true) (fun _ => true) (true) (fun _ _ _ _ _ => true)
    (fun _ _  => false)
    (fun _ _  => false) PUnit.unit (fun _ _ _ _ => PUnit.unit)
theorem one1_eq (v : SV) : one1 v = v.one := by cases v <;> rfl
noncomputable def allOneR (l : List SV) : Bool := @List.rec SV (fun _ => Bool) true (fun v _ ih => @Bool.rec (fun _ => Bool) false ih (one1 v)) l
theorem allOneR_eq : ∀ l : List SV, allOneR l = allOne l
  | [] => rfl
  | v :: l => by
    show @Bool.rec (fun _ => Bool) false (allOneR l) (one1 v) = _
    rw [allOneR_eq l, one1_eq]
    simp only [allOne]
    cases v.one <;> rfl
noncomputable def wr3 (c : Bool) (S : St) (b o : Nat) (vs l : List SV) (e : TypeId) : Option St :=
  @Bool.rec (fun _ => St → Nat → Nat → List SV → List SV → TypeId → Option St) (fun _ _ _ _ _ _ => none) (fun S b o vs l e => some (wrSF S b (some (.cells (setR o vs l) e)))) c S b o vs l e
noncomputable def wrL (ng : Nat) (S : St) (b o : Nat) (vs : List SV) (x : LB) : Option St :=
  @LB.rec (fun _ => Nat → St → Nat → Nat → List SV → Option St) (fun l e ng S b o vs =>
    wr3 (@Bool.rec (fun _ => Bool) false (@Bool.rec (fun _ => Bool) false (allOneR vs) (Nat.ble ng b)) (okR o l (lenR vs))) S b o vs l e) (fun _ _ _ _ _ _ _ => none) (fun _ _ _ _ _ _ _ => none) x ng S b o vs
noncomputable def wrF (ng : Nat) (S : St) (b o : Nat) (vs : List SV) : Option St := @Option.rec LB (fun _ => Option St) none (wrL ng S b o vs) (getF S.H b)
theorem wrF_eq (ng : Nat) (S : St) (b o : Nat) (vs : List SV) : wrF ng S b o vs = wrCells ng S b o vs := by
  unfold wrF wrCells
  rw [getF_eq]
  cases S.H.get b with
  | none => rfl
  | some x =>
    cases x <;> try rfl
    case cells l e =>
      show wr3 (@Bool.rec (fun _ => Bool) false (@Bool.rec (fun _ => Bool) false (allOneR vs) (Nat.ble ng b)) (okR o l (lenR vs))) S b o vs l e = wrK (and (Nat.ble (Nat.add o vs.length) l.length) (and (Nat.ble ng b) (allOne vs))) S b o l vs e
      rw [okR_eq, lenR_eq, allOneR_eq]
      cases h1 : Nat.ble (Nat.add o vs.length) l.length with
      | false => rfl
      | true =>
        cases Nat.ble ng b with
        | false => rfl
        | true =>
          cases allOne vs with
          | false => rfl
          | true =>
            show some (wrSF S b (some (.cells (setR o vs l) e))) = _
            rw [setR_eq o vs l (Nat.le_of_ble_eq_true h1), wrSF_eq]
            rfl

/-- Loads and stores. -/
abbrev OptR := Option (SV × St)
noncomputable def ld1 (S : St) (b o : Nat) : OptR := @Option.rec SV (fun _ => OptR) none (fun v => some (v, sawF S b)) (rd1F S b o)
noncomputable def ldN (S : St) (b o n : Nat) : OptR := @Option.rec (List SV) (fun _ => OptR) none (fun l => some (.agg l, sawF S b)) (rdF S b o n)
noncomputable def ldG (g : Bool) (P : Program) (S : St) (t : TypeId) (b o : Nat) : OptR :=
  @Bool.rec (fun _ => Program → St → TypeId → Nat → Nat → OptR) (fun _ S _ b o => ld1 S b o) (fun P S t b o => @Option.rec Nat (fun _ => OptR) none (ldN S b o) (sizeT P t)) g P S t b o
noncomputable def ldP (b o : Nat) (P : Program) (S : St) (t : TypeId) : OptR := @Option.rec Bool (fun _ => OptR) none (fun g => ldG g P S t b o) (aggT P t)
noncomputable def evLoadF : SV → Program → St → TypeId → OptR :=
  @SV.rec (fun _ => Program → St → TypeId → OptR) (fun _ => PUnit) (fun _ _ _ => none) (fun _ _ _ => none) (fun _ _ _ _ => none) (fun _ _ _ _ _ => none) (fun _ _ _ _ => none) (fun _ _ _ => none)
    (fun b o P S t => ldP b o P S t) (fun _ _ _ => none) (fun _ _ _ _ _ _ _ => none) (fun _ _ _ _ => none) (fun _ _ _ => none) (fun _ _ _ _ => none) (fun _ _ _ => none) (fun _ _ _ _ _ _ _ _ => none) (fun _ _ _ _ _ => none) (fun _ _ _ _ _ => none) PUnit.unit (fun _ _ _ _ => PUnit.unit)
theorem evLoadF_eq (v : SV) (P : Program) (S : St) (t : TypeId) : evLoadF v P S t = evLoad v P S t := by
  cases v <;> try rfl
  case p b o =>
    show @Option.rec Bool (fun _ => OptR) none (fun g => ldG g P S t b o) (aggT P t) = loadK (aggT P t) P S t b o
    cases aggT P t with
    | none => rfl
    | some g =>
      cases g with
      | false =>
        show @Option.rec SV (fun _ => OptR) none (fun v => some (v, sawF S b)) (rd1F S b o) = oneR (rdCells S b o 1) (S.saw b)
        rw [rd1F_eq, sawF_eq]
      | true =>
        show @Option.rec Nat (fun _ => OptR) none (ldN S b o) (sizeT P t) = loadA (sizeT P t) S b o
        cases sizeT P t with
        | none => rfl
        | some n =>
          show @Option.rec (List SV) (fun _ => OptR) none (fun l => some (.agg l, sawF S b)) (rdF S b o n) = _
          rw [rdF_eq, sawF_eq]
          simp only [loadA]
          cases rdCells S b o n <;> rfl
noncomputable def storeKF (z : Option Nat) (ng : Nat) (S : St) (b o : Nat) (vs : List SV) : Option St :=
  @Option.rec Nat (fun _ => Option St) none (fun n => @Bool.rec (fun _ => Option St) none (wrF ng S b o vs) (Nat.beq (lenR vs) n)) z
theorem storeKF_eq (z : Option Nat) (ng : Nat) (S : St) (b o : Nat) (vs : List SV) : storeKF z ng S b o vs = storeK z ng S b o vs := by
  cases z with
  | none => rfl
  | some n =>
    show @Bool.rec (fun _ => Option St) none (wrF ng S b o vs) (Nat.beq (lenR vs) n) = _
    rw [wrF_eq, lenR_eq]
    simp only [storeK]
    cases Nat.beq vs.length n <;> rfl
noncomputable def cellsF : SV → List SV :=
  @SV.rec (fun _ => List SV) (fun _ => PUnit)
    ([.ju])
    ([.und])
    (fun a  => [.b a])
    (fun k n  => [.i k n])
    (fun l  => [.s l])
    ([.np])
    (fun b o  => [.p b o])
    ([.ns])
    (fun b o n c  => [.sl b o n c])
    (fun c  => [.sz c])
    ([.nm])
    (fun b  => [.m b])
    ([.nf])
    (fun f x y _ _  => [.f f x y])
    (fun l _  => l)
    (fun l _  => [.tup l]) PUnit.unit (fun _ _ _ _ => PUnit.unit)
theorem cellsF_eq (v : SV) : cellsF v = v.cells := by cases v <;> rfl
noncomputable def evStoreF : SV → Program → Nat → St → TypeId → SV → Option St :=
  @SV.rec (fun _ => Program → Nat → St → TypeId → SV → Option St) (fun _ => PUnit) (fun _ _ _ _ _ => none) (fun _ _ _ _ _ => none) (fun _ _ _ _ _ _ => none) (fun _ _ _ _ _ _ _ => none) (fun _ _ _ _ _ _ => none) (fun _ _ _ _ _ => none)
    (fun b o P ng S t v => storeKF (sizeT P t) ng S b o (cellsF v)) (fun _ _ _ _ _ => none) (fun _ _ _ _ _ _ _ _ _ => none) (fun _ _ _ _ _ _ => none) (fun _ _ _ _ _ => none) (fun _ _ _ _ _ _ => none) (fun _ _ _ _ _ => none) (fun _ _ _ _ _ _ _ _ _ _ => none) (fun _ _ _ _ _ _ _ => none) (fun _ _ _ _ _ _ _ => none) PUnit.unit (fun _ _ _ _ => PUnit.unit)
theorem evStoreF_eq (a : SV) (P : Program) (ng : Nat) (S : St) (t : TypeId) (v : SV) : evStoreF a P ng S t v = evStore a P ng S t v := by
  cases a <;> try rfl
  case p b o =>
    show storeKF (sizeT P t) ng S b o (cellsF v) = _
    rw [storeKF_eq, cellsF_eq]
    rfl

/-- Making. -/
noncomputable def allocF (z : Option (List SV)) (S : St) (t : TypeId) : Option (SV × St) :=
  @Option.rec (List SV) (fun _ => Option (SV × St)) none (fun z => some (.p S.c 0, newF S (.cells z t))) z
theorem allocF_eq (z : Option (List SV)) (S : St) (t : TypeId) : allocF z S t = evAlloc z S t := by
  cases z with
  | none => rfl
  | some z => show some (_, newF S (.cells z t)) = _; rw [newF_eq]; rfl
noncomputable def boxF (x : Option SV) (S : St) (t : TypeId) : Option (SV × St) :=
  @Option.rec SV (fun _ => Option (SV × St)) none (fun v => @Bool.rec (fun _ => Option (SV × St)) none (some (.p S.c 0, newF S (.cells (cellsF v) t))) (allOneR (cellsF v))) x
theorem boxF_eq (x : Option SV) (S : St) (t : TypeId) : boxF x S t = evBox x S t := by
  cases x with
  | none => rfl
  | some v =>
    show @Bool.rec (fun _ => Option (SV × St)) none (some (.p S.c 0, newF S (.cells (cellsF v) t))) (allOneR (cellsF v)) = boxK (allOne v.cells) v S t
    rw [newF_eq, cellsF_eq, allOneR_eq]
    cases allOne v.cells <;> rfl
noncomputable def fillF (place : Nat → Option (Nat × Nat)) (vs : List (Nat × SV)) : List SV → Option (List SV) :=
  @List.rec (Nat × SV) (fun _ => List SV → Option (List SV)) (fun c => some c)
    (fun q _ ih c => @Option.rec (Nat × Nat) (fun _ => Option (List SV)) none (fun p => @Bool.rec (fun _ => Option (List SV)) none (@Bool.rec (fun _ => Option (List SV)) none (ih (setR p.1 (cellsF q.2) c)) (hasR (Nat.add p.1 (lenR (cellsF q.2))) c)) (Nat.beq (lenR (cellsF q.2)) p.2)) (place q.1)) vs
theorem fillF_eq (place : Nat → Option (Nat × Nat)) : ∀ (vs : List (Nat × SV)) (c : List SV), fillF place vs c = evFill place c vs
  | [], c => rfl
  | (i, v) :: vs, c => by
    show @Option.rec (Nat × Nat) (fun _ => Option (List SV)) none (fun p => @Bool.rec (fun _ => Option (List SV)) none (@Bool.rec (fun _ => Option (List SV)) none (fillF place vs (setR p.1 (cellsF v) c)) (hasR (Nat.add p.1 (lenR (cellsF v))) c)) (Nat.beq (lenR (cellsF v)) p.2)) (place i) = _
    unfold evFill
    cases place i with
    | none => rfl
    | some p =>
      obtain ⟨off, size⟩ := p
      show @Bool.rec (fun _ => Option (List SV)) none (@Bool.rec (fun _ => Option (List SV)) none (fillF place vs (setR off (cellsF v) c)) (hasR (Nat.add off (lenR (cellsF v))) c)) (Nat.beq (lenR (cellsF v)) size) = match Nat.beq v.cells.length size && Nat.ble (off + v.cells.length) c.length with
        | true => evFill place (setAt c off v.cells) vs
        | false => none
      rw [cellsF_eq, hasR_eq, lenR_eq]
      cases Nat.beq v.cells.length size with
      | false => rfl
      | true =>
        show @Bool.rec (fun _ => Option (List SV)) none (fillF place vs (setR off v.cells c)) (Nat.ble (off + v.cells.length) c.length) = match Nat.ble (off + v.cells.length) c.length with
          | true => evFill place (setAt c off v.cells) vs
          | false => none
        cases hb : Nat.ble (off + v.cells.length) c.length with
        | false => rfl
        | true =>
          show fillF place vs (setR off v.cells c) = _
          rw [setR_eq _ _ _ (Nat.le_of_ble_eq_true hb), fillF_eq place vs]
          rfl
noncomputable def repR (z : List SV) (n : Nat) : List SV := @Nat.rec (fun _ => List SV) [] (fun _ ih => appR z ih) n
theorem repR_eq (z : List SV) : ∀ n, repR z n = repZ z n
  | 0 => rfl
  | n + 1 => by show appR z (repR z n) = _; rw [repR_eq z n, appR_eq]; rfl
noncomputable def bsKF (k : Bool) (e : TypeId) (n len : Nat) (z : List SV) (vs : List (Nat × SV)) (S : St) : Option (SV × St) :=
  @Bool.rec (fun _ => Option (SV × St)) none (@Option.rec (List SV) (fun _ => Option (SV × St)) none (fun cs => some (.sl S.c 0 len (some len), newF S (.cells cs e))) (fillF (fun i => some (Nat.mul i n, n)) vs (repR z len))) k
theorem bsKF_eq (k : Bool) (e : TypeId) (n len : Nat) (z : List SV) (vs : List (Nat × SV)) (S : St) : bsKF k e n len z vs S = bsK k e n len z vs S := by
  cases k with
  | false => rfl
  | true =>
    show @Option.rec (List SV) (fun _ => Option (SV × St)) none (fun cs => some (.sl S.c 0 len (some len), newF S (.cells cs e))) (fillF (fun i => some (i * n, n)) vs (repR z len)) = bsR (evFill (fun i => some (i * n, n)) (repZ z len) vs) e len S
    rw [fillF_eq, repR_eq]
    cases evFill (fun i => some (i * n, n)) (repZ z len) vs with
    | none => rfl
    | some cs => show some (_, newF S (.cells cs e)) = _; rw [newF_eq]; rfl
noncomputable def bsF (vs : Option (List (Nat × SV))) (en : Option (TypeId × Nat)) (P : Program) (len : Nat) (S : St) : Option (SV × St) :=
  @Option.rec (List (Nat × SV)) (fun _ => Option (SV × St)) none (fun vs => @Option.rec (TypeId × Nat) (fun _ => Option (SV × St)) none (fun en => @Option.rec (List SV) (fun _ => Option (SV × St)) none
    (fun z => bsKF (allCells vs && (Nat.ble (Nat.mul len en.2) 16777216 && Nat.beq z.length en.2 && Nat.ble 1 en.2)) en.1 en.2 len z vs S) (zeroT P en.1)) en) vs
theorem bsF_eq (vs : Option (List (Nat × SV))) (en : Option (TypeId × Nat)) (P : Program) (len : Nat) (S : St) : bsF vs en P len S = evBuildSlice vs en P len S := by
  cases vs with
  | none => rfl
  | some vs =>
    cases en with
    | none => rfl
    | some en =>
      obtain ⟨e, n⟩ := en
      show @Option.rec (List SV) (fun _ => Option (SV × St)) none (fun z => bsKF (allCells vs && (Nat.ble (len * n) 16777216 && Nat.beq z.length n && Nat.blt 0 n)) e n len z vs S) (zeroT P e) = bsZ (zeroT P e) e n len vs S
      cases zeroT P e with
      | none => rfl
      | some z => exact bsKF_eq _ _ _ _ _ _ _
noncomputable def msKF (k : Bool) (e : TypeId) (l c : Nat) (z : List SV) (S : St) : Option (SV × St) :=
  @Bool.rec (fun _ => Option (SV × St)) none (some (.sl S.c 0 l (some c), newF S (.cells (repR z c) e))) k
theorem msKF_eq (k : Bool) (e : TypeId) (l c : Nat) (z : List SV) (S : St) : msKF k e l c z S = msK k e l c z S := by
  cases k with
  | false => rfl
  | true => show some (_, newF S (.cells (repR z c) e)) = _; rw [newF_eq, repR_eq]; rfl
end Go.Proofs.YtndpcphmndfajaaGreatDoor

namespace Go.Proofs.YtndpcphmndfajaaGreatDoor
set_option linter.unusedVariables false

abbrev RL := Option (Nat × List SV × St)
noncomputable def toCellsR (l : List Nat) : List SV := mapR (fun n => .i .u8 (Int.ofNat n)) l
theorem toCellsR_eq (l : List Nat) : toCellsR l = toCells l := mapR_eq _ l
noncomputable def srcF (S : St) (z : Nat) (x : SV) : RL :=
  @SV.casesOn (fun _ => RL) x none none (fun _ => none) (fun _ _ => none)
    (fun l => @Bool.rec (fun _ => RL) none (some (lenQ l, toCellsR l, S)) (Nat.beq z 1)) none (fun _ _ => none) (some (0, [], S))
    (fun b o n _ => @Option.rec (List SV) (fun _ => RL) none (fun l => some (n, l, sawF S b)) (rdF S b o (Nat.mul n z))) (fun _ => some (0, [], S)) none (fun _ => none) none (fun _ _ _ => none) (fun _ => none) (fun _ => none)
theorem srcF_eq (S : St) (z : Nat) (x : SV) : srcF S z x = srcCells S z x := by
  cases x <;> try rfl
  case s l =>
    show @Bool.rec (fun _ => RL) none (some (lenQ l, toCellsR l, S)) (Nat.beq z 1) = _
    rw [lenQ_eq, toCellsR_eq]
    simp only [srcCells]
    cases Nat.beq z 1 <;> rfl
  case sl b o n c =>
    show @Option.rec (List SV) (fun _ => RL) none (fun l => some (n, l, sawF S b)) (rdF S b o (n * z)) = _
    rw [rdF_eq, sawF_eq]
    simp only [srcCells]
    cases rdCells S b o (n * z) <;> rfl
noncomputable def addF (P : Program) (S : St) (tx e : TypeId) (z : Nat) (x : SV) : RL :=
  match P.underlying tx with
  | some (.int _) => addCells P S tx e z x
  | some _ => srcF S z x
  | none => none
theorem addF_eq (P : Program) (S : St) (tx e : TypeId) (z : Nat) (x : SV) : addF P S tx e z x = addCells P S tx e z x := by
  unfold addF
  cases h : P.underlying tx with
  | none => unfold addCells; rw [h]
  | some d =>
    cases d <;> first | rfl | (show srcF S z x = _; rw [srcF_eq]; unfold addCells; rw [h])
/-- The first k, and others behind them. -/
noncomputable def atkR (k : Nat) (new : List SV) : List SV → List SV :=
  @Nat.rec (fun _ => List SV → List SV) (fun _ => new) (fun _ ih l => @List.rec SV (fun _ => List SV) new (fun a t _ => a :: ih t) l) k
theorem atkR_eq (new : List SV) : ∀ (k : Nat) (l : List SV), atkR k new l = l.take k ++ new
  | 0, l => by cases l <;> rfl
  | k + 1, [] => rfl
  | k + 1, a :: l => by show a :: atkR k new l = _; rw [atkR_eq new k l]; rfl
noncomputable def apGrowF (x : Option LB) (S : St) (b o k n : Nat) (new : List SV) (e : TypeId) : OptR :=
  @Option.rec LB (fun _ => OptR) none (fun x => @LB.rec (fun _ => OptR) (fun all e0 => @Bool.rec (fun _ => OptR) none (@Bool.rec (fun _ => OptR) none (some (.sl S.c 0 n none, newF (wrSF S b none) (.cells (atkR k new all) e))) (Nat.beq e0 e)) (Nat.beq o 0)) (fun _ _ => none) (fun _ _ => none) x) x
theorem apGrowF_eq (x : Option LB) (S : St) (b o k n : Nat) (new : List SV) (e : TypeId) : apGrowF x S b o k n new e = apGrow x S b o k n new e := by
  cases x with
  | none => rfl
  | some x =>
    cases x <;> try rfl
    case cells all e0 =>
      show @Bool.rec (fun _ => OptR) none (@Bool.rec (fun _ => OptR) none (some (.sl S.c 0 n none, newF (wrSF S b none) (.cells (atkR k new all) e))) (Nat.beq e0 e)) (Nat.beq o 0) = _
      rw [newF_eq, wrSF_eq, atkR_eq]
      simp only [apGrow]
      cases Nat.beq o 0 with
      | false => rfl
      | true => cases Nat.beq e0 e <;> rfl
noncomputable def apNewF (k : Bool) (S : St) (n : Nat) (new : List SV) (e : TypeId) : OptR := @Bool.rec (fun _ => OptR) none (some (.sl (ctrF S) 0 n none, newF S (.cells new e))) k
theorem apNewF_eq (k : Bool) (S : St) (n : Nat) (new : List SV) (e : TypeId) : apNewF k S n new e = apNew k S n new e := by
  cases k with
  | false => rfl
  | true => show some (SV.sl (ctrF S) 0 n none, newF S (.cells new e)) = _; rw [ctrF_eq, newF_eq]; rfl
noncomputable def apPutF (r : Option St) (b o n : Nat) (c : Option Nat) : OptR := @Option.rec St (fun _ => OptR) none (fun S => some (.sl b o n c, sawF S b)) r
theorem apPutF_eq (r : Option St) (b o n : Nat) (c : Option Nat) : apPutF r b o n c = apPut r b o n c := by
  cases r with
  | none => rfl
  | some S => show some (SV.sl b o n c, sawF S b) = _; rw [sawF_eq]; rfl
noncomputable def apSlF (old : List SV) (b o len : Nat) (cap : Option Nat) (n : Nat) (new : List SV) (e : TypeId) (z ng : Nat) (S : St) : OptR :=
  @Nat.rec (fun _ => OptR) (some (.sl b o len cap, sawF S b)) (fun n _ => @Option.rec Nat (fun _ => OptR)
    (apGrowF (getF S.H b) S b o (Nat.mul len z) (Nat.add len (Nat.succ n)) new e)
    (fun c => @Bool.rec (fun _ => OptR) (apNewF (allOneR old) (sawF S b) (Nat.add len (Nat.succ n)) (appR old new) e)
      (apPutF (wrF ng S b (Nat.add o (Nat.mul len z)) new) b o (Nat.add len (Nat.succ n)) (some c)) (Nat.ble (Nat.add len (Nat.succ n)) c)) cap) n
theorem apSlF_eq (old : List SV) (b o len : Nat) (cap : Option Nat) (n : Nat) (new : List SV) (e : TypeId) (z ng : Nat) (S : St) : apSlF old b o len cap n new e z ng S = apSl old b o len cap n new e z ng S := by
  cases n with
  | zero => show some (_, sawF S b) = _; rw [sawF_eq]; rfl
  | succ n =>
    cases cap with
    | none =>
      show apGrowF (getF S.H b) S b o (len * z) (len + (n + 1)) new e = _
      rw [apGrowF_eq, getF_eq]
      rfl
    | some c =>
      show @Bool.rec (fun _ => OptR) (apNewF (allOneR old) (sawF S b) (len + (n + 1)) (appR old new) e) (apPutF (wrF ng S b (o + len * z) new) b o (len + (n + 1)) (some c)) (Nat.ble (len + (n + 1)) c) = _
      rw [apNewF_eq, apPutF_eq, wrF_eq, allOneR_eq, appR_eq, sawF_eq]
      simp only [apSl]
      cases Nat.ble (len + (n + 1)) c <;> rfl
/-- An append to a slice at a place: one that fits reads nothing ahead of its write. -/
noncomputable def apCap (b o len : Nat) (cap : Option Nat) (n : Nat) (new : List SV) (e : TypeId) (z ng : Nat) (S : St) : OptR :=
  @Option.rec (List SV) (fun _ => OptR) none (fun old => apSlF old b o len cap n new e z ng S) (rdF S b o (Nat.mul len z))
noncomputable def apFit (b o len c n : Nat) (new : List SV) (e : TypeId) (z ng : Nat) (S : St) : OptR :=
  @Bool.rec (fun _ => OptR) (apCap b o len (some c) n new e z ng S) (@Bool.rec (fun _ => OptR) (apPutF (wrF ng S b (Nat.add o (Nat.mul len z)) new) b o (Nat.add len n) (some c)) (apCap b o len (some c) n new e z ng S) (Nat.beq n 0)) (Nat.ble (Nat.add len n) c)
theorem wr_rd (ng : Nat) (S : St) (b o k : Nat) (new : List SV) (h : rdCells S b o k = none) : wrCells ng S b (o + k) new = none := by
  unfold rdCells at h
  unfold wrCells
  cases hg : S.H.get b with
  | none => rfl
  | some x =>
    rw [hg] at h
    cases x <;> try rfl
    case cells l e =>
      have h : rdK (Nat.ble (o + k) l.length) l o k = none := h
      have h1 : Nat.ble (o + k) l.length = false := by
        cases hb : Nat.ble (o + k) l.length with
        | false => rfl
        | true => rw [hb] at h; cases h
      show wrK (and (Nat.ble (o + k + new.length) l.length) (and (Nat.ble ng b) (allOne new))) S b (o + k) l new e = none
      have h2 : Nat.ble (o + k + new.length) l.length = false := by
        rw [Bool.eq_false_iff, ne_eq, Nat.ble_eq] at h1 ⊢
        omega
      rw [h2]
      rfl
theorem apFit_eq (b o len c n : Nat) (new : List SV) (e : TypeId) (z ng : Nat) (S : St) : apFit b o len c n new e z ng S = apCap b o len (some c) n new e z ng S := by
  unfold apFit
  cases h1 : Nat.ble (Nat.add len n) c with
  | false => rfl
  | true =>
    cases n with
    | zero => rfl
    | succ n =>
      show apPutF (wrF ng S b (o + len * z) new) b o (len + (n + 1)) (some c) = _
      unfold apCap
      rw [rdF_eq, apPutF_eq, wrF_eq]
      cases hr : rdCells S b o (len * z) with
      | none =>
        rw [wr_rd ng S b o (len * z) new hr]
        rfl
      | some old =>
        show _ = apSlF old b o len (some c) (n + 1) new e z ng S
        rw [apSlF_eq]
        simp only [apSl]
        rw [show Nat.ble (len + (n + 1)) c = true from h1]
noncomputable def apSl2 (b o len : Nat) (cap : Option Nat) (n : Nat) (new : List SV) (e : TypeId) (z ng : Nat) (S : St) : OptR :=
  @Bool.rec (fun _ => OptR) none (@Bool.rec (fun _ => OptR) none (@Option.rec Nat (fun _ => OptR) (apCap b o len none n new e z ng S) (fun c => apFit b o len c n new e z ng S) cap) (Nat.ble ng b)) (Nat.ble (Nat.add len n) 1048576)
noncomputable def apSF : SV → Nat → List SV → TypeId → Nat → Nat → St → OptR :=
  @SV.rec (fun _ => Nat → List SV → TypeId → Nat → Nat → St → OptR) (fun _ => PUnit) (fun _ _ _ _ _ _ => none) (fun _ _ _ _ _ _ => none) (fun _ _ _ _ _ _ _ => none) (fun _ _ _ _ _ _ _ _ => none) (fun _ _ _ _ _ _ _ => none) (fun _ _ _ _ _ _ => none) (fun _ _ _ _ _ _ _ _ => none)
    (fun  n new e z ng S => apS .ns n new e z ng S)
    (fun b o len cap n new e z ng S => apSl2 b o len cap n new e z ng S)
    (fun c n new e z ng S => apS (.sz c) n new e z ng S) (fun _ _ _ _ _ _ => none) (fun _ _ _ _ _ _ _ => none) (fun _ _ _ _ _ _ => none) (fun _ _ _ _ _ _ _ _ _ _ _ => none) (fun _ _ _ _ _ _ _ _ => none) (fun _ _ _ _ _ _ _ _ => none) PUnit.unit (fun _ _ _ _ => PUnit.unit)
theorem apSF_eq (s : SV) (n : Nat) (new : List SV) (e : TypeId) (z ng : Nat) (S : St) : apSF s n new e z ng S = apS s n new e z ng S := by
  cases s <;> try rfl
  case sl b o len cap =>
    show apSl2 b o len cap n new e z ng S = _
    have hc : apSl2 b o len cap n new e z ng S = @Bool.rec (fun _ => OptR) none (@Bool.rec (fun _ => OptR) none (apCap b o len cap n new e z ng S) (Nat.ble ng b)) (Nat.ble (len + n) 1048576) := by
      unfold apSl2
      cases cap with
      | none => rfl
      | some c => show @Bool.rec (fun _ => OptR) none (@Bool.rec (fun _ => OptR) none (apFit b o len c n new e z ng S) (Nat.ble ng b)) (Nat.ble (len + n) 1048576) = _; rw [apFit_eq]
    rw [hc]
    unfold apCap
    rw [rdF_eq]
    simp only [apS]
    cases Nat.ble (len + n) 1048576 with
    | false => rfl
    | true =>
      cases Nat.ble ng b with
      | false => rfl
      | true =>
        show @Option.rec (List SV) (fun _ => OptR) none (fun old => apSlF old b o len cap n new e z ng S) (rdCells S b o (len * z)) = _
        simp only [apSlF_eq]
        cases rdCells S b o (len * z) <;> rfl
noncomputable def apOkF (r : RL) (P : Program) (s : SV) (e : TypeId) (z ng : Nat) (info : TypeInfo) : OptR :=
  @Option.rec (Nat × List SV × St) (fun _ => OptR) none (fun q => @Bool.rec (fun _ => OptR) none (@Bool.rec (fun _ => OptR) none (apSF s q.1 q.2.1 e z ng q.2.2) (Nat.ble info.bytes 1024 && zFits P e z)) (allOneR q.2.1)) r
theorem apOkF_eq (r : RL) (P : Program) (s : SV) (e : TypeId) (z ng : Nat) (info : TypeInfo) : apOkF r P s e z ng info = apOk r P s e z ng info := by
  cases r with
  | none => rfl
  | some q =>
    obtain ⟨n, new, S⟩ := q
    show @Bool.rec (fun _ => OptR) none (@Bool.rec (fun _ => OptR) none (apSF s n new e z ng S) (Nat.ble info.bytes 1024 && zFits P e z)) (allOneR new) = _
    rw [allOneR_eq, apSF_eq]
    simp only [apOk, Bool.and_assoc]
    cases allOne new with
    | false => rfl
    | true => simp only [Bool.true_and]; cases (Nat.ble info.bytes 1024 && zFits P e z) <;> rfl
noncomputable def evAppendF (P : Program) (ng : Nat) (S : St) (ts : List TypeId) (s x : SV) : OptR :=
  match ts with
  | [ts, tx] => @Option.rec (TypeId × Nat) (fun _ => OptR) none (fun ez => @Option.rec TypeInfo (fun _ => OptR) none (fun info => apOkF (addF P S tx ez.1 ez.2 x) P s ez.1 ez.2 ng info) (P.info? ez.1)) (elemT P ts)
  | _ => none
theorem evAppendF_eq (P : Program) (ng : Nat) (S : St) (ts : List TypeId) (s x : SV) : evAppendF P ng S ts s x = evAppend P ng S ts s x := by
  cases ts with
  | nil => rfl
  | cons ts r =>
  cases r with
  | nil => rfl
  | cons tx r =>
  cases r with
  | cons _ _ => rfl
  | nil =>
    show @Option.rec (TypeId × Nat) (fun _ => OptR) none (fun ez => @Option.rec TypeInfo (fun _ => OptR) none (fun info => apOkF (addF P S tx ez.1 ez.2 x) P s ez.1 ez.2 ng info) (P.info? ez.1)) (elemT P ts) = apE (elemT P ts) P ng S tx s x
    cases elemT P ts with
    | none => rfl
    | some ez =>
      obtain ⟨e, z⟩ := ez
      show @Option.rec TypeInfo (fun _ => OptR) none (fun info => apOkF (addF P S tx e z x) P s e z ng info) (P.info? e) = apI (P.info? e) P S tx e z ng s x
      cases P.info? e with
      | none => rfl
      | some info => show apOkF (addF P S tx e z x) P s e z ng info = _; rw [apOkF_eq, addF_eq]; rfl
noncomputable def evCopyF (P : Program) (ng : Nat) (S : St) (t : TypeId) (d x : SV) : OptR :=
  match elemT P t with
  | some (e, z) => match d with
    | .sl b o n _ => @Option.rec (Nat × List SV × St) (fun _ => OptR) none (fun q => cpPut (wrF ng q.2.2 b o (takeR (Nat.mul (minN q.1 n) z) q.2.1)) (minN q.1 n)) (srcF S z x)
    | _ => none
  | none => none
theorem evCopyF_eq (P : Program) (ng : Nat) (S : St) (t : TypeId) (d x : SV) : evCopyF P ng S t d x = evCopy P ng S t d x := by
  unfold evCopyF evCopy
  cases elemT P t with
  | none => rfl
  | some ez =>
    obtain ⟨e, z⟩ := ez
    cases d <;> try rfl
    case sl b o n c =>
      show @Option.rec (Nat × List SV × St) (fun _ => OptR) none _ (srcF S z x) = cpTo (srcCells S z x) ng b o n z
      rw [srcF_eq]
      cases srcCells S z x with
      | none => rfl
      | some q =>
        obtain ⟨k, l, S⟩ := q
        show cpPut (wrF ng S b o (takeR (minN k n * z) l)) (minN k n) = _
        rw [wrF_eq, takeR_eq]
        rfl

/-- Parts of values. -/
noncomputable def evPartF (P : Program) (t : TypeId) (cs : List SV) (off : Nat) : Option SV :=
  @Option.rec Bool (fun _ => Option SV) none (fun g => @Bool.rec (fun _ => Option SV) (nthR off cs) (@Option.rec Nat (fun _ => Option SV) none (fun n => some (.agg (takeR n (dropR off cs)))) (sizeT P t)) g) (aggT P t)
theorem evPartF_eq (P : Program) (t : TypeId) (cs : List SV) (off : Nat) : evPartF P t cs off = evPart P t cs off := by
  unfold evPartF evPart
  cases aggT P t with
  | none => rfl
  | some g =>
    cases g with
    | false => exact nthR_eq _ _
    | true =>
      show @Option.rec Nat (fun _ => Option SV) none (fun n => some (.agg (takeR n (dropR off cs)))) (sizeT P t) = partA (sizeT P t) cs off
      cases sizeT P t with
      | none => rfl
      | some n => show some (SV.agg (takeR n (dropR off cs))) = _; rw [takeR_eq, dropR_eq]; rfl
noncomputable def evFieldF (d : Option TypeDesc) (v : SV) (P : Program) (k : Nat) : Option SV :=
  match d, v with
  | some (.struct fs), .agg l => @Option.rec Field (fun _ => Option SV) none (fun f => evPartF P f.type l f.offset) fs[k]?
  | _, _ => none
theorem evFieldF_eq (d : Option TypeDesc) (v : SV) (P : Program) (k : Nat) : evFieldF d v P k = evField d v P k := by
  cases d with
  | none => rfl
  | some d =>
    cases d <;> try rfl
    case struct fs =>
      cases v <;> try rfl
      case agg l =>
        show @Option.rec Field (fun _ => Option SV) none (fun f => evPartF P f.type l f.offset) fs[k]? = fieldK fs[k]? P l
        cases fs[k]? with
        | none => rfl
        | some f => exact evPartF_eq _ _ _ _
noncomputable def idxBF (d : Option TypeDesc) (v : SV) (P : Program) (i : Nat) : Option SV :=
  match d, v with
  | some (.array n e), .agg l => @Option.rec Nat (fun _ => Option SV) none (fun z => @Bool.rec (fun _ => Option SV) none (evPartF P e l (Nat.mul i z)) (Nat.ble (Nat.succ i) n)) (sizeT P e)
  | some .string, .s l => byteR (atN l i)
  | _, _ => none
theorem idxBF_eq (d : Option TypeDesc) (v : SV) (P : Program) (i : Nat) : idxBF d v P i = idxB d v P i := by
  cases d with
  | none => rfl
  | some d =>
    cases d <;> try rfl
    case string => cases v <;> rfl
    case array n e =>
      cases v <;> try rfl
      case agg l =>
        show @Option.rec Nat (fun _ => Option SV) none (fun z => @Bool.rec (fun _ => Option SV) none (evPartF P e l (Nat.mul i z)) (Nat.ble (Nat.succ i) n)) (sizeT P e) = idxE (sizeT P e) (Nat.blt i n) P e l i
        cases sizeT P e with
        | none => rfl
        | some z =>
          show @Bool.rec (fun _ => Option SV) none (evPartF P e l (i * z)) (Nat.blt i n) = _
          rw [evPartF_eq]
          cases Nat.blt i n <;> rfl
noncomputable def evIndexF (ix x : SV) (P : Program) (t : TypeId) : Option SV :=
  match ix with
  | .i _ (.ofNat i) => idxBF (P.underlying t) x P i
  | _ => none
theorem evIndexF_eq (ix x : SV) (P : Program) (t : TypeId) : evIndexF ix x P t = evIndex ix x P t := by
  cases ix <;> try rfl
  case i k n =>
    cases n with
    | ofNat i => exact idxBF_eq _ _ _ _
    | negSucc i => rfl

/-- Texts. -/
noncomputable def evSliceF (P : Program) (t : TypeId) (x : SV) (lo hi mx : Option SV) : Option SV :=
  match x with
  | .s l => match P.underlying t, mx with
    | some .string, none => match bound hi (lenQ l) (lenQ l) with
      | some h => match bound lo 0 h with
        | some k => some (.s (subR k h l))
        | none => none
      | none => none
    | _, _ => none
  | x => evSlice P t x lo hi mx
theorem evSliceF_eq (P : Program) (t : TypeId) (x : SV) (lo hi mx : Option SV) : evSliceF P t x lo hi mx = evSlice P t x lo hi mx := by
  cases x <;> try rfl
  case s l =>
    unfold evSliceF evSlice
    simp only [lenQ_eq, subR_eq]
    rfl
def bq (n i : Nat) : Nat := Nat.mod (Nat.shiftRight n (Nat.mul 8 i)) 256
theorem natQ_out : ∀ (l : List Nat) (i : Nat), okQ l = true → l.length ≤ i → bq (natQ l) i = 0
  | [], i, _, _ => by simp [bq, natQ]
  | a :: l, i, h, hi => by
    have h1 : (match Nat.blt a 256 with | true => okQ l | false => false) = true := h
    have e : natQ (a :: l) = 256 * natQ l + a := rfl
    cases hb : Nat.blt a 256 with
    | false => rw [hb] at h1; cases h1
    | true =>
      rw [hb] at h1
      have ha : a < 256 := by simpa using hb
      cases i with
      | zero => simp at hi
      | succ i =>
        have ih := natQ_out l i h1 (by simpa using hi)
        show (natQ (a :: l) >>> (8 * (i + 1))) % 256 = 0
        have ih' : (natQ l >>> (8 * i)) % 256 = 0 := ih
        rw [← ih', e, Nat.mul_succ, Nat.add_comm (8 * i) 8, Nat.shiftRight_add]
        congr 2
        rw [Nat.shiftRight_eq_div_pow]
        omega
theorem okQ_lt : ∀ (l : List Nat) (i : Nat) (h : i < l.length), okQ l = true → l[i] < 256
  | [], i, h, _ => absurd h (Nat.not_lt_zero _)
  | a :: l, i, h, hk => by
    have h1 : (match Nat.blt a 256 with | true => okQ l | false => false) = true := hk
    cases hb : Nat.blt a 256 with
    | false => rw [hb] at h1; cases h1
    | true =>
      rw [hb] at h1
      cases i with
      | zero => simpa using hb
      | succ i => simpa using okQ_lt l i (by simpa using h) h1
theorem get_bq (l : List Nat) (h : okQ l = true) (i : Nat) : ((⟨(l.map UInt8.ofNat).toArray⟩ : ByteArray).get! i).toNat = bq (natQ l) i := by
  show ((l.map UInt8.ofNat).toArray[i]!).toNat = _
  by_cases hi : i < l.length
  · have e := natQ_at l i h hi
    rw [List.getElem?_eq_getElem hi, Option.some.injEq] at e
    show _ = (natQ l >>> (8 * i)) % 256
    rw [e]
    have := okQ_lt l i hi h
    rw [getElem!_pos _ _ (by simpa using hi)]
    simp only [List.getElem_toArray, List.getElem_map, UInt8.toNat_ofNat']
    omega
  · rw [natQ_out l i h (by omega), getElem!_neg _ _ (by simpa using hi)]
    rfl
noncomputable def brs {α : Type} (c : Bool) (a b : α) : α := @Bool.rec (fun _ => α) b a c
theorem brs_eq {α : Type} (c : Bool) (a b : α) : brs c a b = if c = true then a else b := by cases c <;> rfl
noncomputable def contQ (n len i : Nat) : Bool := brs (Nat.ble (Nat.succ i) len) (Nat.beq (Nat.div (bq n i) 64) 2) false
theorem contQ_eq (l : List Nat) (h : okQ l = true) (i : Nat) : contQ (natQ l) l.length i = (decide (i < (⟨(l.map UInt8.ofNat).toArray⟩ : ByteArray).size) && ((⟨(l.map UInt8.ofNat).toArray⟩ : ByteArray).get! i).toNat / 64 == 2) := by
  rw [get_bq l h]
  unfold contQ
  have e : decide (i < (⟨(l.map UInt8.ofNat).toArray⟩ : ByteArray).size) = Nat.ble (Nat.succ i) l.length := by
    show decide (i < (l.map UInt8.ofNat).toArray.size) = Nat.blt i l.length
    rw [Bool.eq_iff_iff, Nat.blt_eq, decide_eq_true_eq, List.size_toArray, List.length_map]
  rw [e]
  cases Nat.ble (Nat.succ i) l.length with
  | false => rfl
  | true => rw [Bool.true_and, Bool.eq_iff_iff, beq_iff_eq]; exact Nat.beq_eq ▸ Iff.rfl
noncomputable def decW (n len i : Nat) : Nat × Nat :=
  if bq n (i + 0) < 0x80 then (bq n (i + 0), 1)
  else if bq n (i + 0) / 32 == 6 && contQ n len (i + 1) then
    if (bq n (i + 0) % 32) * 64 + bq n (i + 1) % 64 ≥ 0x80 then ((bq n (i + 0) % 32) * 64 + bq n (i + 1) % 64, 2) else (Utf8.runeError, 1)
  else if bq n (i + 0) / 16 == 14 && contQ n len (i + 1) && contQ n len (i + 2) then
    if (bq n (i + 0) % 16) * 4096 + (bq n (i + 1) % 64) * 64 + bq n (i + 2) % 64 ≥ 0x800 && Utf8.valid ((bq n (i + 0) % 16) * 4096 + (bq n (i + 1) % 64) * 64 + bq n (i + 2) % 64 : Nat) then ((bq n (i + 0) % 16) * 4096 + (bq n (i + 1) % 64) * 64 + bq n (i + 2) % 64, 3) else (Utf8.runeError, 1)
  else if bq n (i + 0) / 8 == 30 && contQ n len (i + 1) && contQ n len (i + 2) && contQ n len (i + 3) then
    if (bq n (i + 0) % 8) * 262144 + (bq n (i + 1) % 64) * 4096 + (bq n (i + 2) % 64) * 64 + bq n (i + 3) % 64 ≥ 0x10000 && Utf8.valid ((bq n (i + 0) % 8) * 262144 + (bq n (i + 1) % 64) * 4096 + (bq n (i + 2) % 64) * 64 + bq n (i + 3) % 64 : Nat) then ((bq n (i + 0) % 8) * 262144 + (bq n (i + 1) % 64) * 4096 + (bq n (i + 2) % 64) * 64 + bq n (i + 3) % 64, 4) else (Utf8.runeError, 1)
  else (Utf8.runeError, 1)
theorem decW_eq (l : List Nat) (h : okQ l = true) (i : Nat) : decW (natQ l) l.length i = Utf8.decode ⟨(l.map UInt8.ofNat).toArray⟩ i := by
  unfold decW Utf8.decode
  simp only [← get_bq l h, contQ_eq l h]
noncomputable def decQ (l : List Nat) (i : Nat) : Nat × Nat := brs (okQ l) (decW (natQ l) (lenQ l) i) (decL l i)
theorem decQ_eq (l : List Nat) (i : Nat) : decQ l i = decL l i := by
  unfold decQ
  cases h : okQ l with
  | false => rfl
  | true => show decW (natQ l) (lenQ l) i = _; rw [lenQ_eq, decW_eq l h]; rfl
noncomputable def nextKF (ng : Nat) (S : St) (b : Nat) (x : Option LB) : OptR :=
  @Option.rec LB (fun _ => OptR) none (fun x => @LB.rec (fun _ => OptR) (fun _ _ => none) (fun _ _ => none) (fun l pos => brs (Nat.ble ng b)
    (brs (Nat.ble (Nat.succ pos) (lenQ l)) (@Prod.rec Nat Nat (fun _ => OptR) (fun c k => some (.tup [.b true, .i .i64 (Int.ofNat pos), .i .i32 (Int.ofNat c)], wrSF S b (some (.it l (Nat.add pos k))))) (decQ l pos)) (some (.tup [.b false], sawF S b))) none) x) x
noncomputable def evNextF (ng : Nat) (S : St) (x : SV) : OptR :=
  match x with
  | .p b 0 => nextKF ng S b (getF S.H b)
  | _ => none
theorem evNextF_eq (ng : Nat) (S : St) (x : SV) : evNextF ng S x = evNext ng S x := by
  cases x <;> try rfl
  case p b o =>
    cases o with
    | succ o => rfl
    | zero =>
      show nextKF ng S b (getF S.H b) = _
      rw [getF_eq]
      unfold evNext
      simp only
      cases S.H.get b with
      | none => rfl
      | some x =>
        cases x <;> try rfl
        case it l pos =>
          show brs (Nat.ble ng b) (brs (Nat.blt pos (lenQ l)) (@Prod.rec Nat Nat (fun _ => OptR) (fun c k => some (.tup [.b true, .i .i64 (Int.ofNat pos), .i .i32 (Int.ofNat c)], wrSF S b (some (.it l (pos + k))))) (decQ l pos)) (some (.tup [.b false], sawF S b))) none = _
          rw [lenQ_eq, decQ_eq, sawF_eq]
          simp only
          cases Nat.ble ng b with
          | false => rfl
          | true =>
            cases Nat.blt pos l.length with
            | false => rfl
            | true =>
              cases hd : decL l pos with
              | mk c k => show some (_, wrSF S b (some (.it l (pos + k)))) = _; rw [wrSF_eq]

/-- Conversions, lengths. -/
noncomputable def convF (P : Program) (S : St) (src dst : TypeId) (x : SV) : OptR :=
  match P.underlying src, P.underlying dst, x with
  | some (.int _), some (.int k), .i _ n => some (.i k (wrapE k n), S)
  | some .string, some (.slice e), .s l => match P.underlying e with
    | some (.int .u8) => match sizeT P e with
      | some 1 => some (.sl S.c 0 (lenQ l) none, newF S (.cells (toCellsR l) e))
      | _ => none
    | _ => none
  | some (.slice e), some .string, .sl b o n _ => match P.underlying e with
    | some (.int .u8) => match rdF S b o n with
      | some l => match ofCellsR l with
        | some r => some (.s r, sawF S b)
        | none => none
      | none => none
    | _ => none
  | _, _, x => evConv P S src dst x
theorem convF_eq (P : Program) (S : St) (src dst : TypeId) (x : SV) : convF P S src dst x = evConv P S src dst x := by
  unfold convF
  split
  · rename_i h1 h2
    unfold evConv; rw [h1, h2]
  · rename_i e l h1 h2
    unfold evConv; rw [h1, h2]
    simp only [newF_eq, lenQ_eq, toCellsR_eq]
    rfl
  · rename_i e b o n c h1 h2
    unfold evConv; rw [h1, h2]
    simp only [rdF_eq, ofCellsR_eq, sawF_eq]
    cases P.underlying e with
    | none => rfl
    | some d =>
      cases d <;> try rfl
      case int k => cases k <;> rfl
  · rfl
noncomputable def evLenF (P : Program) (S : St) (t : TypeId) (x : SV) : OptR :=
  match P.underlying t, x with
  | some .string, .s l => some (.i .i64 (Int.ofNat (lenQ l)), S)
  | some (.slice _), .sl _ _ n _ => some (.i .i64 (Int.ofNat n), S)
  | some (.map _ _), .m b => match getF S.H b with
    | some (.map es _) => some (.i .i64 (Int.ofNat (lenR es)), sawF S b)
    | _ => none
  | _, x => evLen P S t x
theorem evLenF_eq (P : Program) (S : St) (t : TypeId) (x : SV) : evLenF P S t x = evLen P S t x := by
  unfold evLenF
  split
  · rename_i h1
    unfold evLen; rw [h1]; simp only [lenQ_eq]
  · rename_i h1
    unfold evLen; rw [h1]
  · rename_i h1
    unfold evLen; rw [h1]; simp only [getF_eq, lenR_eq, sawF_eq]
    rfl
  · rfl

/-- Texts and numbers. -/
noncomputable def binSF (op : BinOp) (a b : List Nat) : Option SV :=
  match op with
  | .add => @Bool.rec (fun _ => Option SV) none (some (.s (appR a b))) (Nat.ble (Nat.add (lenQ a) (lenQ b)) 1152921504606846976)
  | .eql => some (.b (eqNR a b))
  | .neq => some (.b (not (eqNR a b)))
  | _ => none
theorem binSF_eq (op : BinOp) (a b : List Nat) : binSF op a b = evBinS op a b := by
  cases op <;> try rfl
  case add =>
    show @Bool.rec (fun _ => Option SV) none (some (.s (appR a b))) (Nat.ble (Nat.add (lenQ a) (lenQ b)) 1152921504606846976) = addS (Nat.ble (Nat.add a.length b.length) 1152921504606846976) a b
    rw [lenQ_eq, lenQ_eq, appR_eq]
    cases Nat.ble (Nat.add a.length b.length) 1152921504606846976 <;> rfl
  case eql => show some (SV.b (eqNR a b)) = _; rw [eqNR_eq]; rfl
  case neq => show some (SV.b (not (eqNR a b))) = _; rw [eqNR_eq]; rfl
noncomputable def binIF : SV → Program → BinOp → TypeId → IntKind → Int → Option SV :=
  @SV.rec (fun _ => Program → BinOp → TypeId → IntKind → Int → Option SV) (fun _ => PUnit)
    (fun  P op t k n => evBin (.i k n) (.ju) P op t)
    (fun  P op t k n => evBin (.i k n) (.und) P op t)
    (fun a P op t k n => evBin (.i k n) (.b a) P op t)
    (fun k2 n2 P op t k n => evBinI op k n k2 n2)
    (fun l P op t k n => evBin (.i k n) (.s l) P op t)
    (fun  P op t k n => evBin (.i k n) (.np) P op t)
    (fun b o P op t k n => evBin (.i k n) (.p b o) P op t)
    (fun  P op t k n => evBin (.i k n) (.ns) P op t)
    (fun b o m c P op t k n => evBin (.i k n) (.sl b o m c) P op t)
    (fun c P op t k n => evBin (.i k n) (.sz c) P op t)
    (fun  P op t k n => evBin (.i k n) (.nm) P op t)
    (fun b P op t k n => evBin (.i k n) (.m b) P op t)
    (fun  P op t k n => evBin (.i k n) (.nf) P op t)
    (fun f x y _ _ P op t k n => evBin (.i k n) (.f f x y) P op t)
    (fun l _ P op t k n => evBin (.i k n) (.agg l) P op t)
    (fun l _ P op t k n => evBin (.i k n) (.tup l) P op t) PUnit.unit (fun _ _ _ _ => PUnit.unit)
noncomputable def binTF : SV → Program → BinOp → TypeId → List Nat → Option SV :=
  @SV.rec (fun _ => Program → BinOp → TypeId → List Nat → Option SV) (fun _ => PUnit)
    (fun  P op t r => evBin (.s r) (.ju) P op t)
    (fun  P op t r => evBin (.s r) (.und) P op t)
    (fun a P op t r => evBin (.s r) (.b a) P op t)
    (fun k2 n2 P op t r => evBin (.s r) (.i k2 n2) P op t)
    (fun l P op t r => binSF op r l)
    (fun  P op t r => evBin (.s r) (.np) P op t)
    (fun b o P op t r => evBin (.s r) (.p b o) P op t)
    (fun  P op t r => evBin (.s r) (.ns) P op t)
    (fun b o m c P op t r => evBin (.s r) (.sl b o m c) P op t)
    (fun c P op t r => evBin (.s r) (.sz c) P op t)
    (fun  P op t r => evBin (.s r) (.nm) P op t)
    (fun b P op t r => evBin (.s r) (.m b) P op t)
    (fun  P op t r => evBin (.s r) (.nf) P op t)
    (fun f x y _ _ P op t r => evBin (.s r) (.f f x y) P op t)
    (fun l _ P op t r => evBin (.s r) (.agg l) P op t)
    (fun l _ P op t r => evBin (.s r) (.tup l) P op t) PUnit.unit (fun _ _ _ _ => PUnit.unit)
noncomputable def evBinF : SV → SV → Program → BinOp → TypeId → Option SV :=
  @SV.rec (fun _ => SV → Program → BinOp → TypeId → Option SV) (fun _ => PUnit)
    (fun  q P op t => evBin (.ju) q P op t)
    (fun  q P op t => evBin (.und) q P op t)
    (fun a q P op t => evBin (.b a) q P op t)
    (fun k2 n2 q P op t => binIF q P op t k2 n2)
    (fun l q P op t => binTF q P op t l)
    (fun  q P op t => evBin (.np) q P op t)
    (fun b o q P op t => evBin (.p b o) q P op t)
    (fun  q P op t => evBin (.ns) q P op t)
    (fun b o m c q P op t => evBin (.sl b o m c) q P op t)
    (fun c q P op t => evBin (.sz c) q P op t)
    (fun  q P op t => evBin (.nm) q P op t)
    (fun b q P op t => evBin (.m b) q P op t)
    (fun  q P op t => evBin (.nf) q P op t)
    (fun f x y _ _ q P op t => evBin (.f f x y) q P op t)
    (fun l _ q P op t => evBin (.agg l) q P op t)
    (fun l _ q P op t => evBin (.tup l) q P op t) PUnit.unit (fun _ _ _ _ => PUnit.unit)
theorem evBinF_eq (a b : SV) (P : Program) (op : BinOp) (t : TypeId) : evBinF a b P op t = evBin a b P op t := by
  cases a <;> try rfl
  case i k n => cases b <;> rfl
  case s l =>
    cases b <;> try rfl
    case s l' => exact binSF_eq op l l'

/-- Maps. -/
noncomputable def findI (k : IntKind) (a : Int) (es : List (SV × SV × Nat)) : Nat → Option (Option (Nat × SV)) :=
  @List.rec (SV × SV × Nat) (fun _ => Nat → Option (Option (Nat × SV))) (fun _ => some none)
    (fun e _ ih i => @SV.casesOn (fun _ => Option (Option (Nat × SV))) e.1 none none (fun _ => none)
      (fun k' b => @Bool.rec (fun _ => Option (Option (Nat × SV))) none (@Bool.rec (fun _ => Option (Option (Nat × SV))) (ih (Nat.succ i)) (some (some (i, e.2.1))) (eqI a b)) (eqK k k'))
      (fun _ => none) none (fun _ _ => none) none (fun _ _ _ _ => none) (fun _ => none) none (fun _ => none) none (fun _ _ _ => none) (fun _ => none) (fun _ => none)) es
theorem findI_eq (P : Program) (t : TypeId) (kk : IntKind) (h : P.underlying t = some (.int kk)) (k : IntKind) (a : Int) : ∀ (es : List (SV × SV × Nat)) (i : Nat), findI k a es i = findE P t (.i k a) es i
  | [], i => rfl
  | (x, y, c) :: es, i => by
    have ih := findI_eq P t kk h k a es (i + 1)
    have hn : ∀ x : SV, (∀ k' b, x ≠ .i k' b) → eqV P 40 t (.i k a) x = none := by
      intro x hx
      unfold eqV
      rw [h]
      cases x <;> first | rfl | exact absurd rfl (hx _ _)
    unfold findE
    cases x
    case i k' b =>
      show @Bool.rec (fun _ => Option (Option (Nat × SV))) none (@Bool.rec (fun _ => Option (Option (Nat × SV))) (findI k a es (Nat.succ i)) (some (some (i, y))) (eqI a b)) (eqK k k') = _
      have he : eqV P 40 t (.i k a) (.i k' b) = match eqK k k' with
        | true => some (eqI a b)
        | false => none := by unfold eqV; rw [h]; rfl
      simp only
      rw [he]
      cases eqK k k' with
      | false => rfl
      | true =>
        cases eqI a b with
        | false => exact ih
        | true => rfl
    all_goals (rw [hn _ (by intro _ _ e; cases e)]; rfl)
/-- A number's code: it is reckoned once. -/
def zzN : Int → Nat
  | .ofNat m => Nat.mul 2 m
  | .negSucc m => Nat.succ (Nat.mul 2 m)
def kiN : IntKind → Nat
  | .i8 => 0
  | .i16 => 1
  | .i32 => 2
  | .i64 => 3
  | .u8 => 4
  | .u16 => 5
  | .u32 => 6
  | .u64 => 7
def codeN (k : IntKind) (a : Int) : Nat := Nat.add (Nat.mul 8 (zzN a)) (kiN k)
noncomputable def keyN (v : SV) : Option Nat := @SV.casesOn (fun _ => Option Nat) v none none (fun _ => none)
      (fun k b => some (codeN k b))
      (fun _ => none) none (fun _ _ => none) none (fun _ _ _ _ => none) (fun _ => none) none (fun _ => none) none (fun _ _ _ => none) (fun _ => none) (fun _ => none)
theorem code_kind (k k' : IntKind) (a b : Int) : Nat.beq (Nat.mod (codeN k a) 8) (Nat.mod (codeN k' b) 8) = eqK k k' := by
  have h : ∀ (k : IntKind) (a : Int), Nat.mod (codeN k a) 8 = kiN k := fun k a => by
    show (8 * zzN a + kiN k) % 8 = kiN k
    have : kiN k < 8 := by cases k <;> decide
    omega
  rw [h, h]
  cases k <;> cases k' <;> rfl
theorem code_eq (k : IntKind) (a b : Int) : Nat.beq (codeN k a) (codeN k b) = eqI a b := by
  have e : Nat.beq (codeN k a) (codeN k b) = Nat.beq (zzN a) (zzN b) := by
    rw [Bool.eq_iff_iff, Nat.beq_eq, Nat.beq_eq]
    show 8 * zzN a + kiN k = 8 * zzN b + kiN k ↔ _
    omega
  rw [e]
  cases a <;> cases b
  · show Nat.beq (2 * _) (2 * _) = Nat.beq _ _
    rw [Bool.eq_iff_iff, Nat.beq_eq, Nat.beq_eq]; omega
  · show Nat.beq (2 * _) (2 * _ + 1) = false
    rw [Bool.eq_false_iff, ne_eq, Nat.beq_eq]; omega
  · show Nat.beq (2 * _ + 1) (2 * _) = false
    rw [Bool.eq_false_iff, ne_eq, Nat.beq_eq]; omega
  · show Nat.beq (2 * _ + 1) (2 * _ + 1) = Nat.beq _ _
    rw [Bool.eq_iff_iff, Nat.beq_eq, Nat.beq_eq]; omega
noncomputable def findN (c : Nat) (es : List (SV × SV × Nat)) : Nat → Option (Option (Nat × SV)) :=
  @List.rec (SV × SV × Nat) (fun _ => Nat → Option (Option (Nat × SV))) (fun _ => some none)
    (fun e _ ih i => @Option.rec Nat (fun _ => Option (Option (Nat × SV))) none (fun d => @Bool.rec (fun _ => Option (Option (Nat × SV))) (@Bool.rec (fun _ => Option (Option (Nat × SV))) none (ih (Nat.succ i)) (Nat.beq (Nat.mod c 8) (Nat.mod d 8))) (some (some (i, e.2.1))) (Nat.beq c d)) (keyN e.1)) es
theorem findN_eq (k : IntKind) (a : Int) : ∀ (es : List (SV × SV × Nat)) (i : Nat), findN (codeN k a) es i = findI k a es i
  | [], _ => rfl
  | (x, y, n) :: es, i => by
    have ih := findN_eq k a es (i + 1)
    cases x <;> try rfl
    case i k' b =>
      show @Bool.rec (fun _ => Option (Option (Nat × SV))) (@Bool.rec (fun _ => Option (Option (Nat × SV))) none (findN (codeN k a) es (i + 1)) (Nat.beq (Nat.mod (codeN k a) 8) (Nat.mod (codeN k' b) 8))) (some (some (i, y))) (Nat.beq (codeN k a) (codeN k' b)) = @Bool.rec (fun _ => Option (Option (Nat × SV))) none (@Bool.rec (fun _ => Option (Option (Nat × SV))) (findI k a es (i + 1)) (some (some (i, y))) (eqI a b)) (eqK k k')
      rw [ih, code_kind]
      cases hk : eqK k k' with
      | true =>
        have e : k = k' := by cases k <;> cases k' <;> first | rfl | cases hk
        rw [← e, code_eq]
      | false =>
        cases hb : Nat.beq (codeN k a) (codeN k' b) with
        | false => rfl
        | true =>
          exfalso
          have := code_kind k k' a b
          rw [Nat.eq_of_beq_eq_true hb, hk] at this
          simp at this
noncomputable def findEF (P : Program) (t : TypeId) (k : SV) (es : List (SV × SV × Nat)) : Option (Option (Nat × SV)) :=
  match P.underlying t, k with
  | some (.int _), .i k a => findN (codeN k a) es 0
  | _, k => findE P t k es 0
theorem findEF_eq (P : Program) (t : TypeId) (k : SV) (es : List (SV × SV × Nat)) : findEF P t k es = findE P t k es 0 := by
  unfold findEF
  split
  · rename_i h
    rw [findN_eq]
    exact findI_eq P t _ h _ _ es 0
  · rfl
noncomputable def evLookupF (P : Program) (S : St) (t : TypeId) (x k : SV) (ok : Bool) : OptR :=
  match P.underlying t with
  | some (.map kt et) => match keyOk P kt k, zeroT P et, aggT P et with
    | true, some z, some ag =>
      match zeroFit P et with
      | false => none
      | true => match x with
        | .nm => match zvOf ag z with
          | some zv => some (okP ok zv false, S)
          | none => none
        | .m b => match getF S.H b with
          | some (.map es _) => match findEF P kt k es with
            | some (some (_, v)) => some (okP ok v true, sawF S b)
            | some none => match zvOf ag z with
              | some zv => some (okP ok zv false, sawF S b)
              | none => none
            | none => none
          | _ => none
        | _ => none
    | _, _, _ => none
  | _ => none
theorem evLookupF_eq (P : Program) (S : St) (t : TypeId) (x k : SV) (ok : Bool) : evLookupF P S t x k ok = evLookup P S t x k ok := by
  unfold evLookupF evLookup
  simp only [getF_eq, findEF_eq, sawF_eq]
  rfl
noncomputable def evMapSetF (P : Program) (ng : Nat) (S : St) (t : TypeId) (x k v : SV) : Option St :=
  match P.underlying t with
  | some (.map kt _) => match keyOk P kt k, x with
    | true, .m b => match getF S.H b with
      | some (.map es c) => match Nat.ble ng b, findEF P kt k es with
        | true, some none => some (wrSF S b (some (.map (appR es [(k, v, c)]) (c + 1))))
        | _, _ => none
      | _ => none
    | _, _ => none
  | _ => none
theorem evMapSetF_eq (P : Program) (ng : Nat) (S : St) (t : TypeId) (x k v : SV) : evMapSetF P ng S t x k v = evMapSet P ng S t x k v := by
  unfold evMapSetF evMapSet
  simp only [getF_eq, findEF_eq, wrSF_eq, appR_eq]
  rfl

/-- Arguments. -/
noncomputable def initF (l : List SV) : Nat → TR SV → TR SV := @List.rec SV (fun _ => Nat → TR SV → TR SV) (fun _ t => t) (fun v _ ih i t => ih (Nat.succ i) (setF t i (some v))) l
theorem initF_eq : ∀ (l : List SV) (i : Nat) (t : TR SV), initF l i t = initT l i t
  | [], _, _ => rfl
  | v :: l, i, t => by
    show initF l (i + 1) (setF t i (some v)) = _
    rw [initF_eq l, setF_eq]
    rfl
end Go.Proofs.YtndpcphmndfajaaGreatDoor
